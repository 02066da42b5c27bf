/- The reference's Parse. -/
import Derived.Test.YtdijffojppjmfaaDoorUo
import Derived.Test.YtdijffojppjmfaaDoorUk
import Derived.Test.YtdijffojppjmfaaDoorQq
set_option linter.unusedVariables false
set_option linter.unusedSimpArgs false
namespace Go.Proofs.YtdijffojppjmfaaDoor
open Go.RowKit Bir Go.BW
theorem rpp_end {w W : World} {tm : Array Value} {r : Option Pr} {off k n0 n1 c0 c1 : Nat} {A0 A1 : Option Addr} {z0 z1 : Value} (hb : Below w.heap.size w W) (hc : cells2 W w.heap.size z0 z1) (h2 : tm[2]? = some (.pointer (some ⟨w.heap.size, 0, none⟩))) (h3 : tm[3]? = some (.int .i64 off)) (h4 : tm[4]? = some (.int .i64 k))
    (hv : match r with | none => Value.agg #[.slice A0 n0 c0, .slice A1 n1 c1] = zP | some x => PrVal w x (.agg #[.slice A0 n0 c0, .slice A1 n1 c1]) (set2 W w.heap.size (.slice A0 n0 c0) (.slice A1 n1 c1))) :
    bodyPost Tryd.prog Tryd.f15 (ReadPost zP PrVal w (r, off, k)) .ret { tmps := tm, defers := [] } (set2 W w.heap.size (.slice A0 n0 c0) (.slice A1 n1 c1)) := by
  obtain ⟨q0, q1⟩ := set2_cells (.slice A0 n0 c0) (.slice A1 n1 c1) hc
  have hB : Below w.heap.size w (set2 W w.heap.size (.slice A0 n0 c0) (.slice A1 n1 c1)) := hb.trans ((ext_set2 W w.heap.size _ _).to_below hb.size (fun b hb => by omega))
  generalize set2 W w.heap.size (.slice A0 n0 c0) (.slice A1 n1 c1) = W' at *
  cases r <;> exact bodyPost_ret (v := .tuple #[.agg #[.slice A0 n0 c0, .slice A1 n1 c1], .int .i64 off, .int .i64 k]) (by simp [results, Tryd.results15, go_sem, h2, h3, h4, q0, q1]) rfl ⟨hB, _, rfl, hv⟩
set_option maxRecDepth 100000 in
set_option maxHeartbeats 8000000 in
theorem rparseP_calls {w : World} (s : Str) (hs : s.length ≤ 20001) : Calls Tryd.prog 15 #[.string (ba s)] w (ReadPost zP PrVal w (parseP s)) := by
  go_enter Tryd.func15, Tryd.ntmps15
  go_wp2_with fail
  have HB0 : Hid (Below w.heap.size w (w.alloc (.cells #[.slice none 0 0, .slice none 0 0] 26))) := Lib.hid ((Below.refl _ w).alloc (Nat.le_refl _) _)
  have HLB : Hid (LB (w.alloc (.cells #[.slice none 0 0, .slice none 0 0] 26)) w.heap.size 26 [.slice none 0 0, .slice none 0 0]) := Lib.hid (LB.new w [.slice none 0 0, .slice none 0 0] _)
  refine (rbegin_calls s _ hs).mono ?_
  rintro en w1 ⟨hb1, (⟨rb, a, k, hk, rfl, hrd⟩ | ⟨hl2, l, rb, tb, hok, rfl, hrb, hrm⟩)⟩
  · have HF : Hid (parseP s = (none, a, k)) := Lib.hid (by unfold parseP; rw [hrd])
    have e1 : ((k : Int) != 0) = true := bne_iff_ne.2 (by omega)
    have h1 := HLB.out.below hb1
    have q0 := h1.c 0 _ rfl
    have q1 := h1.c 1 _ rfl
    have qf := h1.f
    have ql := h1.lt
    have HB1 := Lib.hid (HB0.out.trans (hb1.mono (by simp)))
    clear hk hrd hb1 h1
    go_wp2_with fail
    rw [HF.out]
    exact rpp_end HB1.out ⟨q0, q1⟩ rfl rfl rfl rfl
  · have HB1 := Lib.hid (HB0.out.trans (hb1.mono (by simp)))
    have HL1 := Lib.hid (HLB.out.below hb1)
    rw [World.size_alloc] at hrb
    obtain ⟨p, hp, hres⟩ := read_prog s.length (lex_len hs hok)
    have HC := Lib.hid (rprog_step (n := fuel0 + 13) (by unfold fuel0; omega) (by unfold fuel0; omega) hrm hp)
    have HP := Lib.hid hp
    clear hb1 hp HB0 HLB
    go_wp2_with fail
    refine HC.out.mono ?_
    rintro en w2 ⟨v, rfl, ⟨av, fv, rfl, hra, hrf⟩, hx, hm⟩
    obtain ⟨A1, c1, rfl, _⟩ := VRow.slice hra
    obtain ⟨A2, c2, rfl, _⟩ : ∃ A c, fv = .slice A p.1.funcs.length c ∧ p.1.funcs.length ≤ c := by obtain ⟨cs, h1, _⟩ := hrf; exact VRow.slice h1
    have hal : Below w2.heap.size w2 (w2.alloc (.cells #[.slice A1 p.1.arrays.length c1, .slice A2 p.1.funcs.length c2] 26)) := (Below.refl _ _).alloc (Nat.le_refl _) _
    have hrowA : ArrRow (w2.alloc (.cells #[.slice A1 p.1.arrays.length c1, .slice A2 p.1.funcs.length c2] 26)) (From (w.heap.size + 1)) (.slice A1 p.1.arrays.length c1) p.1.arrays :=
      VRow.keep hra hal.size fun b hb hl => ⟨hal.block b hl, by have := hb.1; have h9 := HL1.out.lt; show w.heap.size + 1 ≤ b; omega⟩
    have hrowF : FnRow (w2.alloc (.cells #[.slice A1 p.1.arrays.length c1, .slice A2 p.1.funcs.length c2] 26)) (From (w.heap.size + 1)) (.slice A2 p.1.funcs.length c2) p.1.funcs :=
      FnRow.keep hrf hal.size fun b hb hl => ⟨hal.block b hl, by have := hb.1; have h9 := HL1.out.lt; show w.heap.size + 1 ≤ b; omega⟩
    have HRA := Lib.hid hrowA
    have HRF := Lib.hid hrowF
    have hb2 := rx_below HB1.out hx (by omega)
    have HB2 := Lib.hid (hb2.trans (hal.mono hb2.size))
    have HL2 := Lib.hid ((HL1.out.rx hx (by omega)).below hal)
    have HM := Lib.hid (RSt.below hm hal)
    have HX2 := Lib.hid (LB.new w2 [.slice A1 p.1.arrays.length c1, .slice A2 p.1.funcs.length c2] 26)
    have hne : w.heap.size ≠ w2.heap.size := by have := (HL1.out.rx hx (by omega)).lt; omega
    obtain ⟨A0, c0, v0, ⟨q0, q1, q2, q3, q4, q5⟩, _⟩ := HM.out.cells
    clear hra hrf hx hm HC HL1 hrowA hrowF hb2 hal q0 q1 q2 q5
    cases hg : prog fuel0 fuel0 [] [] l with
    | out => rw [hg] at hres; exact hres.elim
    | err l' k =>
      rw [hg] at hres
      obtain ⟨hk, hk0, hpos⟩ := hres
      have HF : Hid (parseP s = (none, p.2.pos, p.2.k)) := Lib.hid (by
        unfold parseP readRes
        rw [if_neg (by omega), hok]
        simp only [hg]
        rw [hk, hpos]
        cases l' <;> rfl)
      have e1 : ((p.2.k : Int) != 0) = true := bne_iff_ne.2 (by omega)
      clear hk hk0 hpos hg
      go_wp2_with fail
      generalize w2.alloc (.cells #[.slice A1 p.1.arrays.length c1, .slice A2 p.1.funcs.length c2] 26) = W2 at HRA HRF HB2 HL2 HM HX2 q3 q4 ⊢
      have z0 := HL2.out.c 0 _ rfl
      have z1 := HL2.out.c 1 _ rfl
      have zf := HL2.out.f
      have zl := HL2.out.lt
      go_region
      all_goals go_wp2
      all_goals rw [HF.out]
      all_goals exact rpp_end HB2.out.drew ⟨z0, z1⟩ rfl rfl rfl rfl
    | ok x l' =>
      rw [hg] at hres
      obtain ⟨hx1, hk, hn⟩ := hres
      obtain rfl := prog_nil_end _ _ _ _ _ _ _ hg
      subst hx1
      rw [hk] at q3
      have hsz : sizeP p.1.funcs + p.1.funcs.length ≤ 1000000000 := by
        have := prog_sz fuel0 fuel0 [] [] l
        rw [hg] at this
        have h2 := lex_len hs hok
        have : cntP p.1 + 0 ≤ 0 + 0 + 0 + l.length := this
        unfold cntP at this
        omega
      have HSZ := Lib.hid hsz
      have HP : Hid (parseP s = if 60 < deepP p.1.funcs then (none, 0, 3) else (some p.1, 0, 0)) := Lib.hid (by
        unfold parseP readRes
        rw [if_neg (by omega), hok]
        simp only [hg])
      clear hg hk hn hsz
      by_cases hd : 60 < deepP p.1.funcs
      · have hdd : decide (60 < deepP p.1.funcs) = true := decide_eq_true hd
        have HF : Hid (parseP s = (none, 0, 3)) := Lib.hid (by rw [HP.out, if_pos hd])
        have HCD := Lib.hid (rdeep_calls p.1.funcs (A0 := A1) (n0 := p.1.arrays.length) (c0 := c1) HSZ.out HRF.out)
        rw [hdd] at HCD
        clear hd hdd HP
        have x0 := HX2.out.c 0 _ rfl
        have x1 := HX2.out.c 1 _ rfl
        go_wp2_with fail
        refine HCD.out.mono ?_
        rintro en w4 ⟨rfl, hb4⟩
        have HB4 := Lib.hid (HB2.out.trans (hb4.mono HB2.out.size))
        have h4 := HL2.out.below hb4
        have z0 := h4.c 0 _ rfl
        have z1 := h4.c 1 _ rfl
        have zf := h4.f
        have zl := h4.lt
        clear x0 x1 q3 q4 hb4 h4
        go_wp2_with fail
        rw [HF.out]
        exact rpp_end HB4.out ⟨z0, z1⟩ rfl rfl rfl rfl
      · have hdd : decide (60 < deepP p.1.funcs) = false := decide_eq_false hd
        have HF : Hid (parseP s = (some p.1, 0, 0)) := Lib.hid (by rw [HP.out, if_neg hd])
        have HCD := Lib.hid (rdeep_calls p.1.funcs (A0 := A1) (n0 := p.1.arrays.length) (c0 := c1) HSZ.out HRF.out)
        rw [hdd] at HCD
        clear hd hdd HP
        have x0 := HX2.out.c 0 _ rfl
        have x1 := HX2.out.c 1 _ rfl
        go_wp2_with fail
        refine HCD.out.mono ?_
        rintro en w4 ⟨rfl, hb4⟩
        have HB4 := Lib.hid (HB2.out.trans (hb4.mono HB2.out.size))
        have h4 := HL2.out.below hb4
        have g4 := HX2.out.below hb4
        have HRA4 := Lib.hid (VRow.keep HRA.out (w1 := w4) (ok' := From (w.heap.size + 1)) hb4.size fun b hb hl => ⟨hb4.block b hl, hb⟩)
        have HRF4 := Lib.hid (FnRow.keep HRF.out (w1 := w4) (ok' := From (w.heap.size + 1)) hb4.size fun b hb hl => ⟨hb4.block b hl, hb⟩)
        have z0 := h4.c 0 _ rfl
        have z1 := h4.c 1 _ rfl
        have zf := h4.f
        have zl := h4.lt
        have k0 := g4.c 0 _ rfl
        have k1 := g4.c 1 _ rfl
        clear x0 x1 q3 q4 hb4 h4 g4
        go_wp2_with fail
        rw [HF.out]
        have hX := ext_set2 w4 w.heap.size (.slice A1 p.1.arrays.length c1) (.slice A2 p.1.funcs.length c2)
        refine rpp_end HB4.out ⟨z0, z1⟩ rfl rfl rfl ⟨_, _, rfl, ?_, ?_⟩
        · exact VRow.keep HRA4.out hX.size fun b hb hl => ⟨hX.block b hl (by have : w.heap.size + 1 ≤ b := hb; omega), by have : w.heap.size + 1 ≤ b := hb; show w.heap.size ≤ b; omega⟩
        · exact FnRow.keep HRF4.out hX.size fun b hb hl => ⟨hX.block b hl (by have : w.heap.size + 1 ≤ b := hb; omega), by have : w.heap.size + 1 ≤ b := hb; show w.heap.size ≤ b; omega⟩
end Go.Proofs.YtdijffojppjmfaaDoor
