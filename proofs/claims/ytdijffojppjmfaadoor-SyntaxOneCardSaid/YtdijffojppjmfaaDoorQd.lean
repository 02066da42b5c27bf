/- The parser's functions, walked. -/
import Derived.Test.YtdijffojppjmfaaDoorQc
set_option linter.unusedVariables false
set_option linter.unusedSimpArgs false
namespace Go.Proofs.YtdijffojppjmfaaDoor
open Go.RowKit Bir Go.BW Go.Proofs.YtdijffojppjmfaaDoorW.PrintLast
abbrev zf : Obj := .cells #[.string ⟨#[]⟩, .slice none 0 0, .slice none 0 0] 76
def FnVal (w : World) (x : Bir.Fn) (v : Value) (w' : World) : Prop := ∃ pv bv, v = .agg #[.string (ba x.name), pv, bv] ∧ StrRow w' (From w.heap.size) pv x.params ∧ SRow w' (From w.heap.size) bv x.body
section
variable {w w2 : World} {pb tb e n : Nat} {l l0 : List Tok}
theorem fn_fin {fn : Func} {k : Nat} {tm : Array Value} {x : Bir.Fn} {pv bv : Value} (hfn : fn.results = #[.cell k 76]) (htm : tm.getD k undef = .pointer (some ⟨w.heap.size, 0, none⟩)) (h : Mid zf w w2 pb tb e l)
    (hp0 : StrRow w2 (From (w.heap.size + 1)) pv x.params) (hb0 : SRow w2 (From (w.heap.size + 1)) bv x.body) :
    bodyPost Tryd.prog fn (GPost FnVal w pb tb e (.ok x l)) .ret { tmps := tm, defers := [] } (set3 w2 w.heap.size (.string (ba x.name)) pv bv) := by
  have hp := h.pb_lt
  have ht := h.tb_lt
  have X := h.ext
  have hs := ext_set3 w2 w.heap.size (.string (ba x.name)) pv bv
  obtain ⟨q0, q1, q2⟩ := set3_cells (.string (ba x.name)) pv bv ((cells3.new w (.string ⟨#[]⟩) (.slice none 0 0) (.slice none 0 0) 76).ext X (by omega))
  generalize set3 w2 w.heap.size (.string (ba x.name)) pv bv = W at *
  refine bodyPost_ret (v := .agg #[.string (ba x.name), pv, bv]) ?_ rfl ⟨_, rfl, ⟨pv, bv, rfl, VRow.ext hp0 hs (fun b hb => by omega) (by omega), hb0.ext hs (fun b hb => by omega) (by omega)⟩, (((Ext.refl _ w).alloc _).trans' X).trans hs (fun i hi => .inr (by omega)), h.st.ext hs (by omega) (by omega) (fun b hb => by omega)⟩
  have htm' : tm[k]?.getD undef = .pointer (some ⟨w.heap.size, 0, none⟩) := by rw [← htm]; simp
  simp [results, hfn, htm', go_sem, q0, q1, q2]
set_option maxHeartbeats 2000000 in
theorem func_calls (hn9 : n ≤ 1000000000) (h : PSt w pb tb e l) (hne : func n l ≠ .out) : Calls Tryd.prog 74 #[pp pb] w (GPost FnVal w pb tb e (func n l)) := by
  generalize hr : func n l = r at hne ⊢
  have HN := Lib.hid hne
  have HR := Lib.hid hr
  clear hne hr
  unfold func at HR
  have HL := Lib.hid (Mid.start zf h)
  go_enter Tryd.func74, Tryd.ntmps74
  go_wp2_with fail
  cases hm : is [102, 117, 110, 99] l with
  | false =>
    have HF : r = .err l 4 := by rw [← HR.out]; simp [must, hm, R.bind]
    refine (must_no HL.out.st [102, 117, 110, 99] hm).mono ?_
    rintro en w1 ⟨rfl, hb⟩
    exact ⟨rfl, HL.out.panic (.of_below hb _) HF⟩
  | true =>
    have HR' := HR.out
    simp only [R.bind, must, hm, if_true, Bool.false_eq_true, if_false, true_and, and_true] at HR'
    replace HR := Lib.hid HR'
    clear HR'
    refine (must_yes HL.out.st [102, 117, 110, 99] hm).mono ?_
    rintro en w1 ⟨rfl, hx, h1⟩
    replace HL := Lib.hid (HL.out.move hx h1)
    clear hx h1 hm
    generalize l.tail = mw1 at HL HR
    go_wp2_with fail
    rcases name_cases mw1 with ⟨k, hy, hk⟩ | ⟨tw2, rw2, hl, hk, hk2, hy⟩
    · have HF : r = .err mw1 k := by rw [← HR.out]; simp [hy, R.bind]
      refine (name_bad HL.out.st hk).mono ?_
      rintro en w2 ⟨rfl, hx⟩
      exact ⟨rfl, HL.out.panic hx HF⟩
    · subst hl
      have HR' := HR.out
      simp only [R.bind, must, hy, if_true, Bool.false_eq_true, if_false, true_and, and_true] at HR'
      replace HR := Lib.hid HR'
      clear HR'
      refine (name_yes HL.out.st hk hk2).mono ?_
      rintro en w2 ⟨rfl, hx, h1⟩
      replace HL := Lib.hid (HL.out.move hx h1)
      clear hx h1 hy hk hk2
      generalize tw2.text = xw2 at HL HR
      have HB := Lib.hid (Blk.new HL.out [.string (ba xw2), .slice none 0 0, .slice none 0 0] 76)
      replace HL := Lib.hid (HL.out.alloc (.cells #[.string (ba xw2), .slice none 0 0, .slice none 0 0] 76))
      have hq := HB.out.ne
      go_wp2_with fail
      cases hm : is [40] rw2 with
      | false =>
        have HF : r = .err rw2 4 := by rw [← HR.out]; simp [must, hm, R.bind]
        refine (must_no HL.out.st [40] hm).mono ?_
        rintro en w3 ⟨rfl, hb⟩
        exact ⟨rfl, HL.out.panic (.of_below hb _) HF⟩
      | true =>
        have HR' := HR.out
        simp only [R.bind, must, hm, if_true, Bool.false_eq_true, if_false, true_and, and_true] at HR'
        replace HR := Lib.hid HR'
        clear HR'
        refine (must_yes HL.out.st [40] hm).mono ?_
        rintro en w3 ⟨rfl, hx, h1⟩
        replace HL := Lib.hid (HL.out.move hx h1)
        replace HB := Lib.hid (HB.out.move hx)
        clear hx h1 hm
        generalize rw2.tail = mw3 at HL HR
        go_wp2_with fail
        generalize hbs : w2.heap.size = bs at HB hq ⊢
        generalize hqq : paramsF n [] mw3 = q at HR
        have HQ := Lib.hid hqq
        have HQN : Hid (q ≠ .out) := by
          intro hq0
          rw [hq0] at HR
          exact HN.out HR.out.symm
        clear hqq hbs
        have HL0 := HL
        have HB0 := HB
        clear HL HB
        go_loopg [] n (fun gk wr => ∃ ps l' pv, Mid zf w wr pb tb e l' ∧ Blk w wr pb bs [.string (ba xw2), pv, .slice none 0 0] ∧ wr.ownsRow (bs + 1) 9 1 pv ps.length (strCells ps) ∧ Hid (paramsF gk ps l' = q) ∧ ps.length + gk ≤ n)
        case atStart => exact ⟨[], mw3, _, HL0.out, HB0.out, World.ownsRow_nil _ _ _ _, HQ, by simp⟩
        case round =>
          obtain ⟨ps, l', pv, hmid, hblk, hown, hg, hlen⟩ := hrel
          clear HL0 HB0 HQ
          cases gk with
          | zero => exact absurd hg.out.symm HQN.out
          | succ m =>
            have hgm : paramsF (m + 1) ps l' = q := hg.out
            unfold paramsF at hgm
            have HGM := Lib.hid hgm
            have HL := Lib.hid hmid
            have HB := Lib.hid hblk
            have HO := Lib.hid hown
            obtain ⟨A, c, rfl, _⟩ := (VRow.of_own hown).slice
            clear hgm hg hmid hblk hown
            have hge := HB.out.ge
            have hpl := HL.out.pb_lt
            go_wp2_with fail
            refine (is_calls HL.out.st [41]).mono ?_
            rintro en v1 ⟨rfl, hb⟩
            replace HO := Lib.hid (own_move HO.out (Ext.of_below hb (· = pb)) (by omega))
            replace HB := Lib.hid (HB.out.below hb)
            replace HL := Lib.hid (HL.out.below hb)
            clear hb
            cases hc : is [41] l' with
            | true =>
              have hq : q = .ok ps l'.tail := by rw [← HGM.out]; simp [hc]
              rw [hq] at HR
              have HR' := HR.out
              simp only [R.bind] at HR'
              replace HR := Lib.hid HR'
              clear HR' hq HGM
              go_wp2_with fail
              refine (must_yes HL.out.st [41] hc).mono ?_
              rintro en v2 ⟨rfl, hx, h1⟩
              replace HO := Lib.hid (own_move HO.out hx (by omega))
              replace HB := Lib.hid (HB.out.move hx)
              replace HL := Lib.hid (HL.out.move hx h1)
              clear hx h1 hc
              go_wp2_with fail
              rcases hy : blockF (gram n) l'.tail with _ | ⟨l2, k2⟩ | ⟨b, l2⟩
              · exact absurd (by rw [← HR.out, hy] <;> rfl) HN.out
              · have HF : r = .err l2 k2 := by rw [← HR.out, hy] <;> rfl
                refine (BPost.bad ((qall n hn9 n (Nat.le_refl _)).block HL.out.st (by rw [hy]; simp)) hy).mono ?_
                rintro en v3 ⟨rfl, hx⟩
                exact ⟨rfl, HL.out.panic hx HF⟩
              · have HF : r = .ok ⟨xw2, ps, b⟩ l2 := by rw [← HR.out, hy] <;> rfl
                refine (BPost.got ((qall n hn9 n (Nat.le_refl _)).block HL.out.st (by rw [hy]; simp)) hy).mono ?_
                rintro en v3 ⟨bv, rfl, hr, hx, h1⟩
                obtain ⟨A3, c3, rfl, _⟩ := hr.slice
                have hz := HL.out.size
                have hsz := HB.out.lt
                have HBV := Lib.hid hr
                replace HO := Lib.hid (own_move HO.out hx (by omega))
                replace HB := Lib.hid (HB.out.move hx)
                replace HL := Lib.hid (HL.out.move hx h1)
                clear hx h1 hr hy
                have c0 := HB.out.c 0 _ rfl
                have c1 := HB.out.c 1 _ rfl
                have c2 := HB.out.c 2 _ rfl
                have cf := HB.out.f
                have hlt := HB.out.lt
                obtain ⟨s0, s1, s2⟩ := (cells3.new w (.string ⟨#[]⟩) (.slice none 0 0) (.slice none 0 0) 76).ext HL.out.ext (by omega)
                have sf := frz_ext (frozen_new w #[.string ⟨#[]⟩, .slice none 0 0, .slice none 0 0] 76) HL.out.ext (by simp) (by omega)
                have hX := ext_cell v3 bs 2 (.slice A3 b.length c3)
                have HST := Lib.hid (HL.out.st_own hX (fun b hb => by subst hb; exact HB.out.ge))
                have HM := Lib.hid (HL.out.own hX (fun b hb => by subst hb; exact HB.out.ge) HST.out)
                have HX := Lib.hid hX
                clear hX
                go_wp2_with fail
                rw [HF]
                refine fn_fin (x := ⟨xw2, ps, b⟩) (pv := .slice A ps.length c) (bv := .slice A3 b.length c3) rfl rfl HM.out ?_ ?_
                · exact (VRow.of_own HO.out).ext HX.out (fun b hb => by omega) (by omega)
                · exact HBV.out.keep HX.out.size (fun b hb hlt => ⟨HX.out.block b hlt (by have : v2.heap.size ≤ b := hb; omega), by have : v2.heap.size ≤ b := hb; show w.heap.size + 1 ≤ b; omega⟩)
            | false =>
              have c1 := HB.out.c 1 _ rfl
              have hgm := HGM.out
              simp only [hc, R.bind, must, if_true, Bool.false_eq_true, if_false] at hgm
              replace HGM := Lib.hid hgm
              clear hgm
              clear hc
              by_cases h0 : ps.length = 0
              ·
                have hgm := HGM.out
                simp only [show (ps.length = 0) = True from eq_true h0, R.bind, must, if_true, Bool.false_eq_true, if_false] at hgm
                replace HGM := Lib.hid hgm
                clear hgm
                have e0 : decide (0 < ps.length) = false := decide_eq_false (by omega)
                clear h0
                go_wp2_with fail
                clear c1 e0
                go_wp2_with fail
                cases hl1 : l' with
                | nil =>
                  rw [hl1] at HL HGM
                  refine (next_nil HL.out.st).mono ?_
                  rintro en v4 ⟨rfl, hb⟩
                  replace HO := Lib.hid (own_move HO.out (Ext.of_below hb (· = pb)) (by omega))
                  replace HB := Lib.hid (HB.out.below hb)
                  replace HL := Lib.hid (HL.out.below hb)
                  clear hb
                  have hgm := HGM.out
                  simp only [kindOf, show ((0 : Nat) = 1) = False from by simp, R.bind, must, if_true, Bool.false_eq_true, if_false] at hgm
                  replace HGM := Lib.hid hgm
                  clear hgm
                  go_wp2_with fail
                  refine wp_region_last_drew (S := fun w' => w'.cell? ⟨bs, 1, none⟩ = some (.slice A ps.length c)) (ds := [5, 6, 7]) (by kernel_rfl) (HB.out.c 1 _ rfl) (fun hHeld => ?_)
                  refine last_pure (i := 0) (v := .pointer (some ⟨bs, 1, none⟩)) rfl (by kernel_rfl) (by kernel_rfl) (by kernel_rfl) (fun _ _ _ h => h) (Or.inl ⟨by rfl, ?_⟩) ?_
                  · intro w'
                    go_simp
                  (try simp only [Act.put, List.setIfInBounds_toArray, List.set_cons_zero, List.set_cons_succ])
                  refine wpAnyLast_take (i := 1) (v := .slice A ps.length c) rfl (by kernel_rfl) (by kernel_rfl) (by kernel_rfl) (by kernel_rfl) (by kernel_rfl) (fun _ _ _ h => h) (Or.inl ⟨by rfl, ?_⟩) hHeld ?_
                  · intro w' a1
                    go_simp
                  (try simp only [Act.put, List.setIfInBounds_toArray, List.set_cons_zero, List.set_cons_succ])
                  refine last_pure (i := 2) (v := pp pb) rfl (by kernel_rfl) (by kernel_rfl) (by kernel_rfl) (fun _ _ _ h => h) (Or.inl ⟨by rfl, ?_⟩) ?_
                  · intro w'
                    go_simp
                  (try simp only [Act.put, List.setIfInBounds_toArray, List.set_cons_zero, List.set_cons_succ])
                  refine wpAnyLast_ready (rs := [3]) (by kernel_rfl) (by simp) ?_
                  refine AllReadyL.cons rfl (by decide) (fun K hK => ?_) AllReadyL.nil
                  go_simp
                  replace HL := Lib.hid HL.out.drew
                  replace HB := Lib.hid HB.out.drew
                  replace HO := Lib.hid HO.out.drew
                  rcases name_cases [] with ⟨k, hy, hk⟩ | ⟨t, rr, hl, hk, hk2, hy⟩
                  · have hq : q = .err [] k := by rw [← HGM.out]; simp [hy, R.bind]
                    have HF : r = .err [] k := by rw [← HR.out, hq] <;> rfl
                    refine (name_bad HL.out.st hk).mono ?_
                    rintro en v9 ⟨rfl, hx⟩
                    exact ⟨rfl, HL.out.panic hx HF⟩
                  ·
                    have hst9 := HL.out.st
                    rw [hl] at hst9
                    have hgm := HGM.out
                    simp only [hy, R.bind, must, if_true, Bool.false_eq_true, if_false] at hgm
                    replace HGM := Lib.hid hgm
                    clear hgm
                    refine (name_yes hst9 hk hk2).mono ?_
                    rintro en v9 ⟨rfl, hx, h1⟩
                    clear hst9 hy hl hk hk2
                    replace HO := Lib.hid (own_move HO.out hx (by omega))
                    replace HB := Lib.hid (HB.out.move hx)
                    replace HL := Lib.hid (HL.out.move hx h1)
                    clear hx h1
                    refine hK.out _ _ (HB.out.c 1 _ rfl) (fun _ => ?_)
                    (try simp only [Act.put, List.setIfInBounds_toArray, List.set_cons_zero, List.set_cons_succ])
                    refine wpAnyLast_ready (rs := [4]) (by kernel_rfl) (by simp) ?_
                    refine AllReadyL.cons rfl (by decide) (fun K4 hK4 => ?_) AllReadyL.nil
                    go_simp
                    refine hK4.out _ _ ((HB.out.alloc _).c 1 _ rfl) (fun _ => ?_)
                    (try simp only [Act.put, List.setIfInBounds_toArray, List.set_cons_zero, List.set_cons_succ])
                    refine wpAnyLast_ready (rs := [5]) (by kernel_rfl) (by simp) ?_
                    refine AllReadyL.cons_last rfl (by decide) (fun K5 hK5 => ?_) AllReadyL.nil
                    rw [if_pos (by rfl)]
                    refine append_one_op v9 (bs + 1) _ _ 53 9 _ 1 16 rfl Tryd.underlying53 infoStr rfl (by decide) (by decide) (.slice A ps.length c) ps.length (strCells ps) [.string (ba t.text)] rfl rfl rfl (by simp [Value.oneCell']) HO.out HB.out.lt (by omega) ?_
                    intro v1 w8 hown hx8 hat
                    refine hK5.out _ _ ?_
                    rw [← strCells_snoc] at hown
                    obtain ⟨A8, c8, rfl, _⟩ := (VRow.of_own hown).slice
                    have hown8 : ∀ k, (Value.slice A ps.length c).ownBlock = some k → bs + 1 ≤ k := fun k hk => (ownsRow_block HO.out hk).1
                    replace HB := Lib.hid (HB.out.ext hx8 (fun hs => by have := hown8 bs hs; omega))
                    have hst8 := HL.out.st_own hx8 (fun k hk => by have := hown8 k hk; omega)
                    replace HL := Lib.hid (HL.out.own hx8 (fun k hk => by have := hown8 k hk; omega) hst8)
                    replace HO := Lib.hid hown
                    clear hst8 hown hx8 hat
                    have c1 := HB.out.c 1 _ rfl
                    have cf := HB.out.f
                    (try simp only [Act.put, List.setIfInBounds_toArray, List.set_cons_zero, List.set_cons_succ])
                    refine wpAnyLast_ready (rs := [6]) (by kernel_rfl) (by simp) ?_
                    refine AllReadyL.cons_last rfl (by decide) (fun K6 hK6 => ?_) AllReadyL.nil
                    go_simp
                    refine hK6.out _ _ ?_
                    (try simp only [Act.put, List.setIfInBounds_toArray, List.set_cons_zero, List.set_cons_succ])
                    refine wpAnyLast_ready (rs := [7]) (by kernel_rfl) (by simp) ?_
                    refine AllReadyL.cons_last rfl (by decide) (fun K7 hK7 => ?_) AllReadyL.nil
                    go_simp
                    refine hK7.out _ _ ?_
                    refine wpAnyLast_done (by kernel_rfl) ?_ _
                    (try simp only [Act.put, List.setIfInBounds_toArray, List.set_cons_zero, List.set_cons_succ])
                    go_wp2_with fail
                    have hX := ext_cell w8 bs 1 (.slice A8 (ps.length + 1) c8)
                    have hst8 := HL.out.st_own hX (fun k hk => by omega)
                    go_roundg m
                    case measure => omega
                    case rel =>
                      refine ⟨ps ++ [t.text], rr, .slice A8 (ps.length + 1) c8, HL.out.own hX (fun k hk => by omega) hst8, HB.out.set 1 _ (by simp), ?_, HGM, by simp; omega⟩
                      rw [List.length_append]
                      exact own_keep HO.out hX (fun k hk hk2 => by have := (ownsRow_block HO.out hk2).1; omega)
                | cons t0 r0 =>
                  rw [hl1] at HL HGM
                  refine (next_cons HL.out.st).mono ?_
                  rintro en v4 ⟨rfl, hb⟩
                  replace HO := Lib.hid (own_move HO.out (Ext.of_below hb (· = pb)) (by omega))
                  replace HB := Lib.hid (HB.out.below hb)
                  replace HL := Lib.hid (HL.out.below hb)
                  clear hb
                  by_cases hk0 : t0.kind = 1
                  ·
                    have hgm := HGM.out
                    simp only [kindOf, hk0, few, R.bind, must, if_true, Bool.false_eq_true, if_false] at hgm
                    replace HGM := Lib.hid hgm
                    clear hgm
                    have e1 : ((t0.kind : Int) == 1) = true := by simp [hk0]
                    have c1 := HB.out.c 1 _ rfl
                    go_wp2_with fail
                    clear c1
                    by_cases hp8 : 8 ≤ ps.length
                    · have hq : q = .err (t0 :: r0) 3 := by rw [← HGM.out]; simp [hp8]
                      have HF : r = .err (t0 :: r0) 3 := by rw [← HR.out, hq] <;> rfl
                      refine (few_no HL.out.st (ps.length : Int) 8 (by omega)).mono ?_
                      rintro en v5 ⟨rfl, hb⟩
                      exact ⟨rfl, HL.out.panic (.of_below hb _) HF⟩
                    ·
                      have hgm := HGM.out
                      simp only [hp8, R.bind, must, if_true, Bool.false_eq_true, if_false] at hgm
                      replace HGM := Lib.hid hgm
                      clear hgm
                      refine (few_ok HL.out.st (ps.length : Int) 8 (by omega)).mono ?_
                      rintro en v5 ⟨rfl, rfl⟩
                      go_wp2_with fail
                      refine wp_region_last_drew (S := fun w' => w'.cell? ⟨bs, 1, none⟩ = some (.slice A ps.length c)) (ds := [5, 6, 7]) (by kernel_rfl) (HB.out.c 1 _ rfl) (fun hHeld => ?_)
                      refine last_pure (i := 0) (v := .pointer (some ⟨bs, 1, none⟩)) rfl (by kernel_rfl) (by kernel_rfl) (by kernel_rfl) (fun _ _ _ h => h) (Or.inl ⟨by rfl, ?_⟩) ?_
                      · intro w'
                        go_simp
                      (try simp only [Act.put, List.setIfInBounds_toArray, List.set_cons_zero, List.set_cons_succ])
                      refine wpAnyLast_take (i := 1) (v := .slice A ps.length c) rfl (by kernel_rfl) (by kernel_rfl) (by kernel_rfl) (by kernel_rfl) (by kernel_rfl) (fun _ _ _ h => h) (Or.inl ⟨by rfl, ?_⟩) hHeld ?_
                      · intro w' a1
                        go_simp
                      (try simp only [Act.put, List.setIfInBounds_toArray, List.set_cons_zero, List.set_cons_succ])
                      refine last_pure (i := 2) (v := pp pb) rfl (by kernel_rfl) (by kernel_rfl) (by kernel_rfl) (fun _ _ _ h => h) (Or.inl ⟨by rfl, ?_⟩) ?_
                      · intro w'
                        go_simp
                      (try simp only [Act.put, List.setIfInBounds_toArray, List.set_cons_zero, List.set_cons_succ])
                      refine wpAnyLast_ready (rs := [3]) (by kernel_rfl) (by simp) ?_
                      refine AllReadyL.cons rfl (by decide) (fun K hK => ?_) AllReadyL.nil
                      go_simp
                      replace HL := Lib.hid HL.out.drew
                      replace HB := Lib.hid HB.out.drew
                      replace HO := Lib.hid HO.out.drew
                      rcases name_cases (t0 :: r0) with ⟨k, hy, hk⟩ | ⟨t, rr, hl, hk, hk2, hy⟩
                      · have hq : q = .err (t0 :: r0) k := by rw [← HGM.out]; simp [hy, R.bind]
                        have HF : r = .err (t0 :: r0) k := by rw [← HR.out, hq] <;> rfl
                        refine (name_bad HL.out.st hk).mono ?_
                        rintro en v9 ⟨rfl, hx⟩
                        exact ⟨rfl, HL.out.panic hx HF⟩
                      ·
                        have hst9 := HL.out.st
                        rw [hl] at hst9
                        have hgm := HGM.out
                        simp only [hy, R.bind, must, if_true, Bool.false_eq_true, if_false] at hgm
                        replace HGM := Lib.hid hgm
                        clear hgm
                        refine (name_yes hst9 hk hk2).mono ?_
                        rintro en v9 ⟨rfl, hx, h1⟩
                        clear hst9 hy hl hk hk2
                        replace HO := Lib.hid (own_move HO.out hx (by omega))
                        replace HB := Lib.hid (HB.out.move hx)
                        replace HL := Lib.hid (HL.out.move hx h1)
                        clear hx h1
                        refine hK.out _ _ (HB.out.c 1 _ rfl) (fun _ => ?_)
                        (try simp only [Act.put, List.setIfInBounds_toArray, List.set_cons_zero, List.set_cons_succ])
                        refine wpAnyLast_ready (rs := [4]) (by kernel_rfl) (by simp) ?_
                        refine AllReadyL.cons rfl (by decide) (fun K4 hK4 => ?_) AllReadyL.nil
                        go_simp
                        refine hK4.out _ _ ((HB.out.alloc _).c 1 _ rfl) (fun _ => ?_)
                        (try simp only [Act.put, List.setIfInBounds_toArray, List.set_cons_zero, List.set_cons_succ])
                        refine wpAnyLast_ready (rs := [5]) (by kernel_rfl) (by simp) ?_
                        refine AllReadyL.cons_last rfl (by decide) (fun K5 hK5 => ?_) AllReadyL.nil
                        rw [if_pos (by rfl)]
                        refine append_one_op v9 (bs + 1) _ _ 53 9 _ 1 16 rfl Tryd.underlying53 infoStr rfl (by decide) (by decide) (.slice A ps.length c) ps.length (strCells ps) [.string (ba t.text)] rfl rfl rfl (by simp [Value.oneCell']) HO.out HB.out.lt (by omega) ?_
                        intro v1 w8 hown hx8 hat
                        refine hK5.out _ _ ?_
                        rw [← strCells_snoc] at hown
                        obtain ⟨A8, c8, rfl, _⟩ := (VRow.of_own hown).slice
                        have hown8 : ∀ k, (Value.slice A ps.length c).ownBlock = some k → bs + 1 ≤ k := fun k hk => (ownsRow_block HO.out hk).1
                        replace HB := Lib.hid (HB.out.ext hx8 (fun hs => by have := hown8 bs hs; omega))
                        have hst8 := HL.out.st_own hx8 (fun k hk => by have := hown8 k hk; omega)
                        replace HL := Lib.hid (HL.out.own hx8 (fun k hk => by have := hown8 k hk; omega) hst8)
                        replace HO := Lib.hid hown
                        clear hst8 hown hx8 hat
                        have c1 := HB.out.c 1 _ rfl
                        have cf := HB.out.f
                        (try simp only [Act.put, List.setIfInBounds_toArray, List.set_cons_zero, List.set_cons_succ])
                        refine wpAnyLast_ready (rs := [6]) (by kernel_rfl) (by simp) ?_
                        refine AllReadyL.cons_last rfl (by decide) (fun K6 hK6 => ?_) AllReadyL.nil
                        go_simp
                        refine hK6.out _ _ ?_
                        (try simp only [Act.put, List.setIfInBounds_toArray, List.set_cons_zero, List.set_cons_succ])
                        refine wpAnyLast_ready (rs := [7]) (by kernel_rfl) (by simp) ?_
                        refine AllReadyL.cons_last rfl (by decide) (fun K7 hK7 => ?_) AllReadyL.nil
                        go_simp
                        refine hK7.out _ _ ?_
                        refine wpAnyLast_done (by kernel_rfl) ?_ _
                        (try simp only [Act.put, List.setIfInBounds_toArray, List.set_cons_zero, List.set_cons_succ])
                        go_wp2_with fail
                        have hX := ext_cell w8 bs 1 (.slice A8 (ps.length + 1) c8)
                        have hst8 := HL.out.st_own hX (fun k hk => by omega)
                        go_roundg m
                        case measure => omega
                        case rel =>
                          refine ⟨ps ++ [t.text], rr, .slice A8 (ps.length + 1) c8, HL.out.own hX (fun k hk => by omega) hst8, HB.out.set 1 _ (by simp), ?_, HGM, by simp; omega⟩
                          rw [List.length_append]
                          exact own_keep HO.out hX (fun k hk hk2 => by have := (ownsRow_block HO.out hk2).1; omega)
                  ·
                    have hgm := HGM.out
                    simp only [kindOf, hk0, R.bind, must, if_true, Bool.false_eq_true, if_false] at hgm
                    replace HGM := Lib.hid hgm
                    clear hgm
                    have e1 : ((t0.kind : Int) == 1) = false := beq_eq_false_iff_ne.2 (by omega)
                    go_wp2_with fail
                    refine wp_region_last_drew (S := fun w' => w'.cell? ⟨bs, 1, none⟩ = some (.slice A ps.length c)) (ds := [5, 6, 7]) (by kernel_rfl) (HB.out.c 1 _ rfl) (fun hHeld => ?_)
                    refine last_pure (i := 0) (v := .pointer (some ⟨bs, 1, none⟩)) rfl (by kernel_rfl) (by kernel_rfl) (by kernel_rfl) (fun _ _ _ h => h) (Or.inl ⟨by rfl, ?_⟩) ?_
                    · intro w'
                      go_simp
                    (try simp only [Act.put, List.setIfInBounds_toArray, List.set_cons_zero, List.set_cons_succ])
                    refine wpAnyLast_take (i := 1) (v := .slice A ps.length c) rfl (by kernel_rfl) (by kernel_rfl) (by kernel_rfl) (by kernel_rfl) (by kernel_rfl) (fun _ _ _ h => h) (Or.inl ⟨by rfl, ?_⟩) hHeld ?_
                    · intro w' a1
                      go_simp
                    (try simp only [Act.put, List.setIfInBounds_toArray, List.set_cons_zero, List.set_cons_succ])
                    refine last_pure (i := 2) (v := pp pb) rfl (by kernel_rfl) (by kernel_rfl) (by kernel_rfl) (fun _ _ _ h => h) (Or.inl ⟨by rfl, ?_⟩) ?_
                    · intro w'
                      go_simp
                    (try simp only [Act.put, List.setIfInBounds_toArray, List.set_cons_zero, List.set_cons_succ])
                    refine wpAnyLast_ready (rs := [3]) (by kernel_rfl) (by simp) ?_
                    refine AllReadyL.cons rfl (by decide) (fun K hK => ?_) AllReadyL.nil
                    go_simp
                    replace HL := Lib.hid HL.out.drew
                    replace HB := Lib.hid HB.out.drew
                    replace HO := Lib.hid HO.out.drew
                    rcases name_cases (t0 :: r0) with ⟨k, hy, hk⟩ | ⟨t, rr, hl, hk, hk2, hy⟩
                    · have hq : q = .err (t0 :: r0) k := by rw [← HGM.out]; simp [hy, R.bind]
                      have HF : r = .err (t0 :: r0) k := by rw [← HR.out, hq] <;> rfl
                      refine (name_bad HL.out.st hk).mono ?_
                      rintro en v9 ⟨rfl, hx⟩
                      exact ⟨rfl, HL.out.panic hx HF⟩
                    ·
                      have hst9 := HL.out.st
                      rw [hl] at hst9
                      have hgm := HGM.out
                      simp only [hy, R.bind, must, if_true, Bool.false_eq_true, if_false] at hgm
                      replace HGM := Lib.hid hgm
                      clear hgm
                      refine (name_yes hst9 hk hk2).mono ?_
                      rintro en v9 ⟨rfl, hx, h1⟩
                      clear hst9 hy hl hk hk2
                      replace HO := Lib.hid (own_move HO.out hx (by omega))
                      replace HB := Lib.hid (HB.out.move hx)
                      replace HL := Lib.hid (HL.out.move hx h1)
                      clear hx h1
                      refine hK.out _ _ (HB.out.c 1 _ rfl) (fun _ => ?_)
                      (try simp only [Act.put, List.setIfInBounds_toArray, List.set_cons_zero, List.set_cons_succ])
                      refine wpAnyLast_ready (rs := [4]) (by kernel_rfl) (by simp) ?_
                      refine AllReadyL.cons rfl (by decide) (fun K4 hK4 => ?_) AllReadyL.nil
                      go_simp
                      refine hK4.out _ _ ((HB.out.alloc _).c 1 _ rfl) (fun _ => ?_)
                      (try simp only [Act.put, List.setIfInBounds_toArray, List.set_cons_zero, List.set_cons_succ])
                      refine wpAnyLast_ready (rs := [5]) (by kernel_rfl) (by simp) ?_
                      refine AllReadyL.cons_last rfl (by decide) (fun K5 hK5 => ?_) AllReadyL.nil
                      rw [if_pos (by rfl)]
                      refine append_one_op v9 (bs + 1) _ _ 53 9 _ 1 16 rfl Tryd.underlying53 infoStr rfl (by decide) (by decide) (.slice A ps.length c) ps.length (strCells ps) [.string (ba t.text)] rfl rfl rfl (by simp [Value.oneCell']) HO.out HB.out.lt (by omega) ?_
                      intro v1 w8 hown hx8 hat
                      refine hK5.out _ _ ?_
                      rw [← strCells_snoc] at hown
                      obtain ⟨A8, c8, rfl, _⟩ := (VRow.of_own hown).slice
                      have hown8 : ∀ k, (Value.slice A ps.length c).ownBlock = some k → bs + 1 ≤ k := fun k hk => (ownsRow_block HO.out hk).1
                      replace HB := Lib.hid (HB.out.ext hx8 (fun hs => by have := hown8 bs hs; omega))
                      have hst8 := HL.out.st_own hx8 (fun k hk => by have := hown8 k hk; omega)
                      replace HL := Lib.hid (HL.out.own hx8 (fun k hk => by have := hown8 k hk; omega) hst8)
                      replace HO := Lib.hid hown
                      clear hst8 hown hx8 hat
                      have c1 := HB.out.c 1 _ rfl
                      have cf := HB.out.f
                      (try simp only [Act.put, List.setIfInBounds_toArray, List.set_cons_zero, List.set_cons_succ])
                      refine wpAnyLast_ready (rs := [6]) (by kernel_rfl) (by simp) ?_
                      refine AllReadyL.cons_last rfl (by decide) (fun K6 hK6 => ?_) AllReadyL.nil
                      go_simp
                      refine hK6.out _ _ ?_
                      (try simp only [Act.put, List.setIfInBounds_toArray, List.set_cons_zero, List.set_cons_succ])
                      refine wpAnyLast_ready (rs := [7]) (by kernel_rfl) (by simp) ?_
                      refine AllReadyL.cons_last rfl (by decide) (fun K7 hK7 => ?_) AllReadyL.nil
                      go_simp
                      refine hK7.out _ _ ?_
                      refine wpAnyLast_done (by kernel_rfl) ?_ _
                      (try simp only [Act.put, List.setIfInBounds_toArray, List.set_cons_zero, List.set_cons_succ])
                      go_wp2_with fail
                      have hX := ext_cell w8 bs 1 (.slice A8 (ps.length + 1) c8)
                      have hst8 := HL.out.st_own hX (fun k hk => by omega)
                      go_roundg m
                      case measure => omega
                      case rel =>
                        refine ⟨ps ++ [t.text], rr, .slice A8 (ps.length + 1) c8, HL.out.own hX (fun k hk => by omega) hst8, HB.out.set 1 _ (by simp), ?_, HGM, by simp; omega⟩
                        rw [List.length_append]
                        exact own_keep HO.out hX (fun k hk hk2 => by have := (ownsRow_block HO.out hk2).1; omega)
              ·
                have hgm := HGM.out
                simp only [show (ps.length = 0) = False from eq_false h0, R.bind, must, if_true, Bool.false_eq_true, if_false] at hgm
                replace HGM := Lib.hid hgm
                clear hgm
                have e0 : decide (0 < ps.length) = true := decide_eq_true (by omega)
                clear h0
                go_wp2_with fail
                clear c1 e0
                cases hm : is [44] l' with
                | false =>
                  have hq : q = .err l' 4 := by rw [← HGM.out]; simp [must, hm, R.bind]
                  have HF : r = .err l' 4 := by rw [← HR.out, hq] <;> rfl
                  refine (must_no HL.out.st [44] hm).mono ?_
                  rintro en v3 ⟨rfl, hb⟩
                  exact ⟨rfl, HL.out.panic (.of_below hb _) HF⟩
                | true =>
                  have hgm := HGM.out
                  simp only [hm, R.bind, must, if_true, Bool.false_eq_true, if_false] at hgm
                  replace HGM := Lib.hid hgm
                  clear hgm
                  refine (must_yes HL.out.st [44] hm).mono ?_
                  rintro en v3 ⟨rfl, hx, h1⟩
                  clear hm
                  replace HO := Lib.hid (own_move HO.out hx (by omega))
                  replace HB := Lib.hid (HB.out.move hx)
                  replace HL := Lib.hid (HL.out.move hx h1)
                  clear hx h1
                  generalize l'.tail = m3 at HL HGM
                  go_wp2_with fail
                  cases hl1 : m3 with
                  | nil =>
                    rw [hl1] at HL HGM
                    refine (next_nil HL.out.st).mono ?_
                    rintro en v4 ⟨rfl, hb⟩
                    replace HO := Lib.hid (own_move HO.out (Ext.of_below hb (· = pb)) (by omega))
                    replace HB := Lib.hid (HB.out.below hb)
                    replace HL := Lib.hid (HL.out.below hb)
                    clear hb
                    have hgm := HGM.out
                    simp only [kindOf, show ((0 : Nat) = 1) = False from by simp, R.bind, must, if_true, Bool.false_eq_true, if_false] at hgm
                    replace HGM := Lib.hid hgm
                    clear hgm
                    go_wp2_with fail
                    refine wp_region_last_drew (S := fun w' => w'.cell? ⟨bs, 1, none⟩ = some (.slice A ps.length c)) (ds := [5, 6, 7]) (by kernel_rfl) (HB.out.c 1 _ rfl) (fun hHeld => ?_)
                    refine last_pure (i := 0) (v := .pointer (some ⟨bs, 1, none⟩)) rfl (by kernel_rfl) (by kernel_rfl) (by kernel_rfl) (fun _ _ _ h => h) (Or.inl ⟨by rfl, ?_⟩) ?_
                    · intro w'
                      go_simp
                    (try simp only [Act.put, List.setIfInBounds_toArray, List.set_cons_zero, List.set_cons_succ])
                    refine wpAnyLast_take (i := 1) (v := .slice A ps.length c) rfl (by kernel_rfl) (by kernel_rfl) (by kernel_rfl) (by kernel_rfl) (by kernel_rfl) (fun _ _ _ h => h) (Or.inl ⟨by rfl, ?_⟩) hHeld ?_
                    · intro w' a1
                      go_simp
                    (try simp only [Act.put, List.setIfInBounds_toArray, List.set_cons_zero, List.set_cons_succ])
                    refine last_pure (i := 2) (v := pp pb) rfl (by kernel_rfl) (by kernel_rfl) (by kernel_rfl) (fun _ _ _ h => h) (Or.inl ⟨by rfl, ?_⟩) ?_
                    · intro w'
                      go_simp
                    (try simp only [Act.put, List.setIfInBounds_toArray, List.set_cons_zero, List.set_cons_succ])
                    refine wpAnyLast_ready (rs := [3]) (by kernel_rfl) (by simp) ?_
                    refine AllReadyL.cons rfl (by decide) (fun K hK => ?_) AllReadyL.nil
                    go_simp
                    replace HL := Lib.hid HL.out.drew
                    replace HB := Lib.hid HB.out.drew
                    replace HO := Lib.hid HO.out.drew
                    rcases name_cases [] with ⟨k, hy, hk⟩ | ⟨t, rr, hl, hk, hk2, hy⟩
                    · have hq : q = .err [] k := by rw [← HGM.out]; simp [hy, R.bind]
                      have HF : r = .err [] k := by rw [← HR.out, hq] <;> rfl
                      refine (name_bad HL.out.st hk).mono ?_
                      rintro en v9 ⟨rfl, hx⟩
                      exact ⟨rfl, HL.out.panic hx HF⟩
                    ·
                      have hst9 := HL.out.st
                      rw [hl] at hst9
                      have hgm := HGM.out
                      simp only [hy, R.bind, must, if_true, Bool.false_eq_true, if_false] at hgm
                      replace HGM := Lib.hid hgm
                      clear hgm
                      refine (name_yes hst9 hk hk2).mono ?_
                      rintro en v9 ⟨rfl, hx, h1⟩
                      clear hst9 hy hl hk hk2
                      replace HO := Lib.hid (own_move HO.out hx (by omega))
                      replace HB := Lib.hid (HB.out.move hx)
                      replace HL := Lib.hid (HL.out.move hx h1)
                      clear hx h1
                      refine hK.out _ _ (HB.out.c 1 _ rfl) (fun _ => ?_)
                      (try simp only [Act.put, List.setIfInBounds_toArray, List.set_cons_zero, List.set_cons_succ])
                      refine wpAnyLast_ready (rs := [4]) (by kernel_rfl) (by simp) ?_
                      refine AllReadyL.cons rfl (by decide) (fun K4 hK4 => ?_) AllReadyL.nil
                      go_simp
                      refine hK4.out _ _ ((HB.out.alloc _).c 1 _ rfl) (fun _ => ?_)
                      (try simp only [Act.put, List.setIfInBounds_toArray, List.set_cons_zero, List.set_cons_succ])
                      refine wpAnyLast_ready (rs := [5]) (by kernel_rfl) (by simp) ?_
                      refine AllReadyL.cons_last rfl (by decide) (fun K5 hK5 => ?_) AllReadyL.nil
                      rw [if_pos (by rfl)]
                      refine append_one_op v9 (bs + 1) _ _ 53 9 _ 1 16 rfl Tryd.underlying53 infoStr rfl (by decide) (by decide) (.slice A ps.length c) ps.length (strCells ps) [.string (ba t.text)] rfl rfl rfl (by simp [Value.oneCell']) HO.out HB.out.lt (by omega) ?_
                      intro v1 w8 hown hx8 hat
                      refine hK5.out _ _ ?_
                      rw [← strCells_snoc] at hown
                      obtain ⟨A8, c8, rfl, _⟩ := (VRow.of_own hown).slice
                      have hown8 : ∀ k, (Value.slice A ps.length c).ownBlock = some k → bs + 1 ≤ k := fun k hk => (ownsRow_block HO.out hk).1
                      replace HB := Lib.hid (HB.out.ext hx8 (fun hs => by have := hown8 bs hs; omega))
                      have hst8 := HL.out.st_own hx8 (fun k hk => by have := hown8 k hk; omega)
                      replace HL := Lib.hid (HL.out.own hx8 (fun k hk => by have := hown8 k hk; omega) hst8)
                      replace HO := Lib.hid hown
                      clear hst8 hown hx8 hat
                      have c1 := HB.out.c 1 _ rfl
                      have cf := HB.out.f
                      (try simp only [Act.put, List.setIfInBounds_toArray, List.set_cons_zero, List.set_cons_succ])
                      refine wpAnyLast_ready (rs := [6]) (by kernel_rfl) (by simp) ?_
                      refine AllReadyL.cons_last rfl (by decide) (fun K6 hK6 => ?_) AllReadyL.nil
                      go_simp
                      refine hK6.out _ _ ?_
                      (try simp only [Act.put, List.setIfInBounds_toArray, List.set_cons_zero, List.set_cons_succ])
                      refine wpAnyLast_ready (rs := [7]) (by kernel_rfl) (by simp) ?_
                      refine AllReadyL.cons_last rfl (by decide) (fun K7 hK7 => ?_) AllReadyL.nil
                      go_simp
                      refine hK7.out _ _ ?_
                      refine wpAnyLast_done (by kernel_rfl) ?_ _
                      (try simp only [Act.put, List.setIfInBounds_toArray, List.set_cons_zero, List.set_cons_succ])
                      go_wp2_with fail
                      have hX := ext_cell w8 bs 1 (.slice A8 (ps.length + 1) c8)
                      have hst8 := HL.out.st_own hX (fun k hk => by omega)
                      go_roundg m
                      case measure => omega
                      case rel =>
                        refine ⟨ps ++ [t.text], rr, .slice A8 (ps.length + 1) c8, HL.out.own hX (fun k hk => by omega) hst8, HB.out.set 1 _ (by simp), ?_, HGM, by simp; omega⟩
                        rw [List.length_append]
                        exact own_keep HO.out hX (fun k hk hk2 => by have := (ownsRow_block HO.out hk2).1; omega)
                  | cons t0 r0 =>
                    rw [hl1] at HL HGM
                    refine (next_cons HL.out.st).mono ?_
                    rintro en v4 ⟨rfl, hb⟩
                    replace HO := Lib.hid (own_move HO.out (Ext.of_below hb (· = pb)) (by omega))
                    replace HB := Lib.hid (HB.out.below hb)
                    replace HL := Lib.hid (HL.out.below hb)
                    clear hb
                    by_cases hk0 : t0.kind = 1
                    ·
                      have hgm := HGM.out
                      simp only [kindOf, hk0, few, R.bind, must, if_true, Bool.false_eq_true, if_false] at hgm
                      replace HGM := Lib.hid hgm
                      clear hgm
                      have e1 : ((t0.kind : Int) == 1) = true := by simp [hk0]
                      have c1 := HB.out.c 1 _ rfl
                      go_wp2_with fail
                      clear c1
                      by_cases hp8 : 8 ≤ ps.length
                      · have hq : q = .err (t0 :: r0) 3 := by rw [← HGM.out]; simp [hp8]
                        have HF : r = .err (t0 :: r0) 3 := by rw [← HR.out, hq] <;> rfl
                        refine (few_no HL.out.st (ps.length : Int) 8 (by omega)).mono ?_
                        rintro en v5 ⟨rfl, hb⟩
                        exact ⟨rfl, HL.out.panic (.of_below hb _) HF⟩
                      ·
                        have hgm := HGM.out
                        simp only [hp8, R.bind, must, if_true, Bool.false_eq_true, if_false] at hgm
                        replace HGM := Lib.hid hgm
                        clear hgm
                        refine (few_ok HL.out.st (ps.length : Int) 8 (by omega)).mono ?_
                        rintro en v5 ⟨rfl, rfl⟩
                        go_wp2_with fail
                        refine wp_region_last_drew (S := fun w' => w'.cell? ⟨bs, 1, none⟩ = some (.slice A ps.length c)) (ds := [5, 6, 7]) (by kernel_rfl) (HB.out.c 1 _ rfl) (fun hHeld => ?_)
                        refine last_pure (i := 0) (v := .pointer (some ⟨bs, 1, none⟩)) rfl (by kernel_rfl) (by kernel_rfl) (by kernel_rfl) (fun _ _ _ h => h) (Or.inl ⟨by rfl, ?_⟩) ?_
                        · intro w'
                          go_simp
                        (try simp only [Act.put, List.setIfInBounds_toArray, List.set_cons_zero, List.set_cons_succ])
                        refine wpAnyLast_take (i := 1) (v := .slice A ps.length c) rfl (by kernel_rfl) (by kernel_rfl) (by kernel_rfl) (by kernel_rfl) (by kernel_rfl) (fun _ _ _ h => h) (Or.inl ⟨by rfl, ?_⟩) hHeld ?_
                        · intro w' a1
                          go_simp
                        (try simp only [Act.put, List.setIfInBounds_toArray, List.set_cons_zero, List.set_cons_succ])
                        refine last_pure (i := 2) (v := pp pb) rfl (by kernel_rfl) (by kernel_rfl) (by kernel_rfl) (fun _ _ _ h => h) (Or.inl ⟨by rfl, ?_⟩) ?_
                        · intro w'
                          go_simp
                        (try simp only [Act.put, List.setIfInBounds_toArray, List.set_cons_zero, List.set_cons_succ])
                        refine wpAnyLast_ready (rs := [3]) (by kernel_rfl) (by simp) ?_
                        refine AllReadyL.cons rfl (by decide) (fun K hK => ?_) AllReadyL.nil
                        go_simp
                        replace HL := Lib.hid HL.out.drew
                        replace HB := Lib.hid HB.out.drew
                        replace HO := Lib.hid HO.out.drew
                        rcases name_cases (t0 :: r0) with ⟨k, hy, hk⟩ | ⟨t, rr, hl, hk, hk2, hy⟩
                        · have hq : q = .err (t0 :: r0) k := by rw [← HGM.out]; simp [hy, R.bind]
                          have HF : r = .err (t0 :: r0) k := by rw [← HR.out, hq] <;> rfl
                          refine (name_bad HL.out.st hk).mono ?_
                          rintro en v9 ⟨rfl, hx⟩
                          exact ⟨rfl, HL.out.panic hx HF⟩
                        ·
                          have hst9 := HL.out.st
                          rw [hl] at hst9
                          have hgm := HGM.out
                          simp only [hy, R.bind, must, if_true, Bool.false_eq_true, if_false] at hgm
                          replace HGM := Lib.hid hgm
                          clear hgm
                          refine (name_yes hst9 hk hk2).mono ?_
                          rintro en v9 ⟨rfl, hx, h1⟩
                          clear hst9 hy hl hk hk2
                          replace HO := Lib.hid (own_move HO.out hx (by omega))
                          replace HB := Lib.hid (HB.out.move hx)
                          replace HL := Lib.hid (HL.out.move hx h1)
                          clear hx h1
                          refine hK.out _ _ (HB.out.c 1 _ rfl) (fun _ => ?_)
                          (try simp only [Act.put, List.setIfInBounds_toArray, List.set_cons_zero, List.set_cons_succ])
                          refine wpAnyLast_ready (rs := [4]) (by kernel_rfl) (by simp) ?_
                          refine AllReadyL.cons rfl (by decide) (fun K4 hK4 => ?_) AllReadyL.nil
                          go_simp
                          refine hK4.out _ _ ((HB.out.alloc _).c 1 _ rfl) (fun _ => ?_)
                          (try simp only [Act.put, List.setIfInBounds_toArray, List.set_cons_zero, List.set_cons_succ])
                          refine wpAnyLast_ready (rs := [5]) (by kernel_rfl) (by simp) ?_
                          refine AllReadyL.cons_last rfl (by decide) (fun K5 hK5 => ?_) AllReadyL.nil
                          rw [if_pos (by rfl)]
                          refine append_one_op v9 (bs + 1) _ _ 53 9 _ 1 16 rfl Tryd.underlying53 infoStr rfl (by decide) (by decide) (.slice A ps.length c) ps.length (strCells ps) [.string (ba t.text)] rfl rfl rfl (by simp [Value.oneCell']) HO.out HB.out.lt (by omega) ?_
                          intro v1 w8 hown hx8 hat
                          refine hK5.out _ _ ?_
                          rw [← strCells_snoc] at hown
                          obtain ⟨A8, c8, rfl, _⟩ := (VRow.of_own hown).slice
                          have hown8 : ∀ k, (Value.slice A ps.length c).ownBlock = some k → bs + 1 ≤ k := fun k hk => (ownsRow_block HO.out hk).1
                          replace HB := Lib.hid (HB.out.ext hx8 (fun hs => by have := hown8 bs hs; omega))
                          have hst8 := HL.out.st_own hx8 (fun k hk => by have := hown8 k hk; omega)
                          replace HL := Lib.hid (HL.out.own hx8 (fun k hk => by have := hown8 k hk; omega) hst8)
                          replace HO := Lib.hid hown
                          clear hst8 hown hx8 hat
                          have c1 := HB.out.c 1 _ rfl
                          have cf := HB.out.f
                          (try simp only [Act.put, List.setIfInBounds_toArray, List.set_cons_zero, List.set_cons_succ])
                          refine wpAnyLast_ready (rs := [6]) (by kernel_rfl) (by simp) ?_
                          refine AllReadyL.cons_last rfl (by decide) (fun K6 hK6 => ?_) AllReadyL.nil
                          go_simp
                          refine hK6.out _ _ ?_
                          (try simp only [Act.put, List.setIfInBounds_toArray, List.set_cons_zero, List.set_cons_succ])
                          refine wpAnyLast_ready (rs := [7]) (by kernel_rfl) (by simp) ?_
                          refine AllReadyL.cons_last rfl (by decide) (fun K7 hK7 => ?_) AllReadyL.nil
                          go_simp
                          refine hK7.out _ _ ?_
                          refine wpAnyLast_done (by kernel_rfl) ?_ _
                          (try simp only [Act.put, List.setIfInBounds_toArray, List.set_cons_zero, List.set_cons_succ])
                          go_wp2_with fail
                          have hX := ext_cell w8 bs 1 (.slice A8 (ps.length + 1) c8)
                          have hst8 := HL.out.st_own hX (fun k hk => by omega)
                          go_roundg m
                          case measure => omega
                          case rel =>
                            refine ⟨ps ++ [t.text], rr, .slice A8 (ps.length + 1) c8, HL.out.own hX (fun k hk => by omega) hst8, HB.out.set 1 _ (by simp), ?_, HGM, by simp; omega⟩
                            rw [List.length_append]
                            exact own_keep HO.out hX (fun k hk hk2 => by have := (ownsRow_block HO.out hk2).1; omega)
                    ·
                      have hgm := HGM.out
                      simp only [kindOf, hk0, R.bind, must, if_true, Bool.false_eq_true, if_false] at hgm
                      replace HGM := Lib.hid hgm
                      clear hgm
                      have e1 : ((t0.kind : Int) == 1) = false := beq_eq_false_iff_ne.2 (by omega)
                      go_wp2_with fail
                      refine wp_region_last_drew (S := fun w' => w'.cell? ⟨bs, 1, none⟩ = some (.slice A ps.length c)) (ds := [5, 6, 7]) (by kernel_rfl) (HB.out.c 1 _ rfl) (fun hHeld => ?_)
                      refine last_pure (i := 0) (v := .pointer (some ⟨bs, 1, none⟩)) rfl (by kernel_rfl) (by kernel_rfl) (by kernel_rfl) (fun _ _ _ h => h) (Or.inl ⟨by rfl, ?_⟩) ?_
                      · intro w'
                        go_simp
                      (try simp only [Act.put, List.setIfInBounds_toArray, List.set_cons_zero, List.set_cons_succ])
                      refine wpAnyLast_take (i := 1) (v := .slice A ps.length c) rfl (by kernel_rfl) (by kernel_rfl) (by kernel_rfl) (by kernel_rfl) (by kernel_rfl) (fun _ _ _ h => h) (Or.inl ⟨by rfl, ?_⟩) hHeld ?_
                      · intro w' a1
                        go_simp
                      (try simp only [Act.put, List.setIfInBounds_toArray, List.set_cons_zero, List.set_cons_succ])
                      refine last_pure (i := 2) (v := pp pb) rfl (by kernel_rfl) (by kernel_rfl) (by kernel_rfl) (fun _ _ _ h => h) (Or.inl ⟨by rfl, ?_⟩) ?_
                      · intro w'
                        go_simp
                      (try simp only [Act.put, List.setIfInBounds_toArray, List.set_cons_zero, List.set_cons_succ])
                      refine wpAnyLast_ready (rs := [3]) (by kernel_rfl) (by simp) ?_
                      refine AllReadyL.cons rfl (by decide) (fun K hK => ?_) AllReadyL.nil
                      go_simp
                      replace HL := Lib.hid HL.out.drew
                      replace HB := Lib.hid HB.out.drew
                      replace HO := Lib.hid HO.out.drew
                      rcases name_cases (t0 :: r0) with ⟨k, hy, hk⟩ | ⟨t, rr, hl, hk, hk2, hy⟩
                      · have hq : q = .err (t0 :: r0) k := by rw [← HGM.out]; simp [hy, R.bind]
                        have HF : r = .err (t0 :: r0) k := by rw [← HR.out, hq] <;> rfl
                        refine (name_bad HL.out.st hk).mono ?_
                        rintro en v9 ⟨rfl, hx⟩
                        exact ⟨rfl, HL.out.panic hx HF⟩
                      ·
                        have hst9 := HL.out.st
                        rw [hl] at hst9
                        have hgm := HGM.out
                        simp only [hy, R.bind, must, if_true, Bool.false_eq_true, if_false] at hgm
                        replace HGM := Lib.hid hgm
                        clear hgm
                        refine (name_yes hst9 hk hk2).mono ?_
                        rintro en v9 ⟨rfl, hx, h1⟩
                        clear hst9 hy hl hk hk2
                        replace HO := Lib.hid (own_move HO.out hx (by omega))
                        replace HB := Lib.hid (HB.out.move hx)
                        replace HL := Lib.hid (HL.out.move hx h1)
                        clear hx h1
                        refine hK.out _ _ (HB.out.c 1 _ rfl) (fun _ => ?_)
                        (try simp only [Act.put, List.setIfInBounds_toArray, List.set_cons_zero, List.set_cons_succ])
                        refine wpAnyLast_ready (rs := [4]) (by kernel_rfl) (by simp) ?_
                        refine AllReadyL.cons rfl (by decide) (fun K4 hK4 => ?_) AllReadyL.nil
                        go_simp
                        refine hK4.out _ _ ((HB.out.alloc _).c 1 _ rfl) (fun _ => ?_)
                        (try simp only [Act.put, List.setIfInBounds_toArray, List.set_cons_zero, List.set_cons_succ])
                        refine wpAnyLast_ready (rs := [5]) (by kernel_rfl) (by simp) ?_
                        refine AllReadyL.cons_last rfl (by decide) (fun K5 hK5 => ?_) AllReadyL.nil
                        rw [if_pos (by rfl)]
                        refine append_one_op v9 (bs + 1) _ _ 53 9 _ 1 16 rfl Tryd.underlying53 infoStr rfl (by decide) (by decide) (.slice A ps.length c) ps.length (strCells ps) [.string (ba t.text)] rfl rfl rfl (by simp [Value.oneCell']) HO.out HB.out.lt (by omega) ?_
                        intro v1 w8 hown hx8 hat
                        refine hK5.out _ _ ?_
                        rw [← strCells_snoc] at hown
                        obtain ⟨A8, c8, rfl, _⟩ := (VRow.of_own hown).slice
                        have hown8 : ∀ k, (Value.slice A ps.length c).ownBlock = some k → bs + 1 ≤ k := fun k hk => (ownsRow_block HO.out hk).1
                        replace HB := Lib.hid (HB.out.ext hx8 (fun hs => by have := hown8 bs hs; omega))
                        have hst8 := HL.out.st_own hx8 (fun k hk => by have := hown8 k hk; omega)
                        replace HL := Lib.hid (HL.out.own hx8 (fun k hk => by have := hown8 k hk; omega) hst8)
                        replace HO := Lib.hid hown
                        clear hst8 hown hx8 hat
                        have c1 := HB.out.c 1 _ rfl
                        have cf := HB.out.f
                        (try simp only [Act.put, List.setIfInBounds_toArray, List.set_cons_zero, List.set_cons_succ])
                        refine wpAnyLast_ready (rs := [6]) (by kernel_rfl) (by simp) ?_
                        refine AllReadyL.cons_last rfl (by decide) (fun K6 hK6 => ?_) AllReadyL.nil
                        go_simp
                        refine hK6.out _ _ ?_
                        (try simp only [Act.put, List.setIfInBounds_toArray, List.set_cons_zero, List.set_cons_succ])
                        refine wpAnyLast_ready (rs := [7]) (by kernel_rfl) (by simp) ?_
                        refine AllReadyL.cons_last rfl (by decide) (fun K7 hK7 => ?_) AllReadyL.nil
                        go_simp
                        refine hK7.out _ _ ?_
                        refine wpAnyLast_done (by kernel_rfl) ?_ _
                        (try simp only [Act.put, List.setIfInBounds_toArray, List.set_cons_zero, List.set_cons_succ])
                        go_wp2_with fail
                        have hX := ext_cell w8 bs 1 (.slice A8 (ps.length + 1) c8)
                        have hst8 := HL.out.st_own hX (fun k hk => by omega)
                        go_roundg m
                        case measure => omega
                        case rel =>
                          refine ⟨ps ++ [t.text], rr, .slice A8 (ps.length + 1) c8, HL.out.own hX (fun k hk => by omega) hst8, HB.out.set 1 _ (by simp), ?_, HGM, by simp; omega⟩
                          rw [List.length_append]
                          exact own_keep HO.out hX (fun k hk hk2 => by have := (ownsRow_block HO.out hk2).1; omega)
end
end Go.Proofs.YtdijffojppjmfaaDoor
