/- Parse, walked (printed by parsep.py). -/
import Derived.Test.YtdijffojppjmfaaDoorQp
set_option linter.unusedVariables false
set_option linter.unusedSimpArgs false
namespace Go.Proofs.YtdijffojppjmfaaDoor
open Go.RowKit Bir Go.BW
theorem pp_end {w W : World} {tm : Array Value} {r : Option Pr} {off k n0 n1 c0 c1 : Nat} {A0 A1 : Option Addr} {z0 z1 : Value} (hb : Below w.heap.size w W) (hc : cells2 W w.heap.size z0 z1) (h2 : tm[2]? = some (.pointer (some ⟨w.heap.size, 0, none⟩))) (h3 : tm[3]? = some (.int .i64 off)) (h4 : tm[4]? = some (.int .i64 k))
    (hv : match r with | none => Value.agg #[.slice A0 n0 c0, .slice A1 n1 c1] = zP | some x => PrO w x (.agg #[.slice A0 n0 c0, .slice A1 n1 c1]) (set2 W w.heap.size (.slice A0 n0 c0) (.slice A1 n1 c1))) :
    bodyPost Tryd.prog Tryd.f14 (ReadPost zP PrO w (r, off, k)) .ret { tmps := tm, defers := [] } (set2 W w.heap.size (.slice A0 n0 c0) (.slice A1 n1 c1)) := by
  obtain ⟨q0, q1⟩ := set2_cells (.slice A0 n0 c0) (.slice A1 n1 c1) hc
  have hB : Below w.heap.size w (set2 W w.heap.size (.slice A0 n0 c0) (.slice A1 n1 c1)) := hb.trans ((ext_set2 W w.heap.size _ _).to_below hb.size (fun b hb => by omega))
  generalize set2 W w.heap.size (.slice A0 n0 c0) (.slice A1 n1 c1) = W' at *
  cases r <;> exact bodyPost_ret (v := .tuple #[.agg #[.slice A0 n0 c0, .slice A1 n1 c1], .int .i64 off, .int .i64 k]) (by simp [results, Tryd.results14, go_sem, h2, h3, h4, q0, q1]) rfl ⟨hB, _, rfl, hv⟩
set_option maxRecDepth 100000 in
set_option maxHeartbeats 1000000 in
theorem parse_own {w : World} (s : Str) (hs : s.length ≤ 20001) (hlev : LevAt w w.heap.size) :
    Calls Tryd.prog 14 #[.string (ba s)] w (ReadPost zP PrO w (parseP s)) := by
  have HRC := Lib.hid (readP_calls (w := w.alloc (.cells #[.slice none 0 0, .slice none 0 0] 26)) (s := s) fuel0 (by unfold fuel0; omega) (by omega) (hlev.keep (by simp) (fun b hb => Below.heap_alloc _ _ b hb)) (fun l hl => prog_out (lex_len hs hl)))
  rcases readRes_cases (prog fuel0 fuel0 [] []) s (fun l => prog_k _ _ _ _ l) (fun l hl => prog_out (lex_len hs hl)) with ⟨x, l, hl, hl2, hp, hrd⟩ | ⟨a, k, hk, hrd⟩
  · have HP : Hid (parseP s = if 60 < deepP x.funcs then (none, 0, 3) else (some x, 0, 0)) := Lib.hid (by unfold parseP; rw [hrd])
    rw [hrd] at HRC
    have hsz : sizeP x.funcs + x.funcs.length ≤ 1000000000 := by
      have := prog_sz fuel0 fuel0 [] [] l
      rw [hp] at this
      have h2 := lex_len hs hl
      have : cntP x + 0 ≤ 0 + 0 + 0 + l.length := this
      unfold cntP at this
      omega
    have HSZ := Lib.hid hsz
    clear hl hp hrd hsz
    by_cases hd : 60 < deepP x.funcs
    · have e1 : decide ((60 : Int) < (deepP x.funcs : Int)) = true := by simp; omega
      have HF : Hid (parseP s = (none, 0, 3)) := Lib.hid (by rw [HP.out, if_pos hd])
      clear hd HP
      go_enter Tryd.func14, Tryd.ntmps14
      go_wp2_with fail
      refine HRC.out.mono ?_
      rintro en w1 ⟨hb1, v, rfl, av, fv, bs, rfl, hbs, hown⟩
      obtain ⟨A1, c1, rfl⟩ := hown.rowA
      obtain ⟨A2, c2, rfl⟩ := hown.rowF
      rw [World.size_alloc] at hbs
      have hz1 := hb1.size
      rw [World.size_alloc] at hz1
      have q := (cells2.new w (.slice none 0 0) (.slice none 0 0) 26).ext (Ext.of_below hb1 (fun _ => False)) id
      have qf := frz_ext (frozen_new w #[.slice none 0 0, .slice none 0 0] 26) (Ext.of_below hb1 (fun _ => False)) (by simp) id
      have HB1 := Lib.hid hb1
      have HR1 := Lib.hid hown
      have HR2 := Lib.hid (hown.valF (Nat.le_refl _))
      clear hb1 hown
      go_wp2_with fail
      refine (deepProgram_calls x.funcs HSZ.out (FnRow.keep HR2.out (w1 := _) (ok' := fun _ => True) (by rw [World.size_alloc]; omega) fun b _ hlt => ⟨Below.heap_alloc _ _ b hlt, trivial⟩)).mono ?_
      rintro en w2 ⟨rfl, hb2⟩
      obtain ⟨q0, q1⟩ := cells2.ext (cells2.ext q ((Ext.refl (fun _ => False) w1).alloc (.cells #[.slice A1 x.arrays.length c1, .slice A2 x.funcs.length c2] 26)) id) (Ext.of_below hb2 (fun _ => False)) id
      have qf2 := frz_ext (frz_ext qf ((Ext.refl (fun _ => False) w1).alloc (.cells #[.slice A1 x.arrays.length c1, .slice A2 x.funcs.length c2] 26)) (by omega) id) (Ext.of_below hb2 (fun _ => False)) (by rw [World.size_alloc]; omega) id
      have HB2 := Lib.hid hb2
      clear q qf hb2
      go_wp2_with fail
      rw [HF.out]
      exact pp_end ((((Below.refl w.heap.size w).alloc (Nat.le_refl _) _).trans (HB1.out.mono (by simp))).trans (((Below.refl w1.heap.size w1).alloc (Nat.le_refl _) _).mono (by omega)) |>.trans (HB2.out.mono (by rw [World.size_alloc]; omega))) ⟨q0, q1⟩ rfl rfl rfl rfl
    · have e1 : decide ((60 : Int) < (deepP x.funcs : Int)) = false := by simp; omega
      have HF : Hid (parseP s = (some x, 0, 0)) := Lib.hid (by rw [HP.out, if_neg hd])
      clear hd HP
      go_enter Tryd.func14, Tryd.ntmps14
      go_wp2_with fail
      refine HRC.out.mono ?_
      rintro en w1 ⟨hb1, v, rfl, av, fv, bs, rfl, hbs, hown⟩
      obtain ⟨A1, c1, rfl⟩ := hown.rowA
      obtain ⟨A2, c2, rfl⟩ := hown.rowF
      rw [World.size_alloc] at hbs
      have hz1 := hb1.size
      rw [World.size_alloc] at hz1
      have q := (cells2.new w (.slice none 0 0) (.slice none 0 0) 26).ext (Ext.of_below hb1 (fun _ => False)) id
      have qf := frz_ext (frozen_new w #[.slice none 0 0, .slice none 0 0] 26) (Ext.of_below hb1 (fun _ => False)) (by simp) id
      have HB1 := Lib.hid hb1
      have HR1 := Lib.hid hown
      have HR2 := Lib.hid (hown.valF (Nat.le_refl _))
      clear hb1 hown
      go_wp2_with fail
      refine (deepProgram_calls x.funcs HSZ.out (FnRow.keep HR2.out (w1 := _) (ok' := fun _ => True) (by rw [World.size_alloc]; omega) fun b _ hlt => ⟨Below.heap_alloc _ _ b hlt, trivial⟩)).mono ?_
      rintro en w2 ⟨rfl, hb2⟩
      obtain ⟨q0, q1⟩ := cells2.ext (cells2.ext q ((Ext.refl (fun _ => False) w1).alloc (.cells #[.slice A1 x.arrays.length c1, .slice A2 x.funcs.length c2] 26)) id) (Ext.of_below hb2 (fun _ => False)) id
      have qf2 := frz_ext (frz_ext qf ((Ext.refl (fun _ => False) w1).alloc (.cells #[.slice A1 x.arrays.length c1, .slice A2 x.funcs.length c2] 26)) (by omega) id) (Ext.of_below hb2 (fun _ => False)) (by rw [World.size_alloc]; omega) id
      have HB2 := Lib.hid hb2
      obtain ⟨p0, p1⟩ := (cells2.new w1 (.slice A1 x.arrays.length c1) (.slice A2 x.funcs.length c2) 26).ext (Ext.of_below hb2 (fun _ => False)) id
      clear q qf hb2
      go_wp2_with fail
      rw [HF.out]
      refine pp_end ((((Below.refl w.heap.size w).alloc (Nat.le_refl _) _).trans (HB1.out.mono (by simp))).trans (((Below.refl w1.heap.size w1).alloc (Nat.le_refl _) _).mono (by omega)) |>.trans (HB2.out.mono (by rw [World.size_alloc]; omega))) ⟨q0, q1⟩ rfl rfl rfl ⟨_, _, bs, rfl, by omega, ?_⟩
      have E := ((((Ext.refl (fun b => b = w.heap.size) w1).alloc (.cells #[.slice A1 x.arrays.length c1, .slice A2 x.funcs.length c2] 26)).below HB2.out).trans' (ext_set2 w2 w.heap.size (.slice A1 x.arrays.length c1) (.slice A2 x.funcs.length c2)))
      exact HR1.out.keep E (fun b hb => by omega)
  · have HF : Hid (parseP s = (none, a, k)) := Lib.hid (by unfold parseP; rw [hrd])
    rw [hrd] at HRC
    have e1 : ((k : Int) == 0) = false := beq_eq_false_iff_ne.2 (by omega)
    clear hk hrd
    go_enter Tryd.func14, Tryd.ntmps14
    go_wp2_with fail
    refine HRC.out.mono ?_
    rintro en w1 ⟨hb1, v, rfl, rfl⟩
    have hz1 := hb1.size
    rw [World.size_alloc] at hz1
    obtain ⟨q0, q1⟩ := ((cells2.new w (.slice none 0 0) (.slice none 0 0) 26).ext (Ext.of_below hb1 (fun _ => False)) id).ext ((Ext.refl (fun _ => False) w1).alloc (.cells #[.slice none 0 0, .slice none 0 0] 26)) id
    have qf := frz_ext (frz_ext (frozen_new w #[.slice none 0 0, .slice none 0 0] 26) (Ext.of_below hb1 (fun _ => False)) (by simp) id) ((Ext.refl (fun _ => False) w1).alloc (.cells #[.slice none 0 0, .slice none 0 0] 26)) (by omega) id
    have HB1 := Lib.hid hb1
    clear hb1
    go_wp2_with fail
    rw [HF.out]
    exact pp_end ((((Below.refl w.heap.size w).alloc (Nat.le_refl _) _).trans (HB1.out.mono (by simp))).trans (((Below.refl w1.heap.size w1).alloc (Nat.le_refl _) _).mono (by omega))) ⟨q0, q1⟩ rfl rfl rfl rfl
theorem parse_calls {w : World} (s : Str) (hs : s.length ≤ 20001) (hlev : LevAt w w.heap.size) :
    Calls Tryd.prog 14 #[.string (ba s)] w (ReadPost zP PrVal w (parseP s)) := by
  refine (parse_own s hs hlev).mono ?_
  generalize parseP s = r
  obtain ⟨r, a, k⟩ := r
  rintro en w' ⟨hb, v, rfl, hv⟩
  refine ⟨hb, v, rfl, ?_⟩
  cases r with
  | none => exact hv
  | some x => exact PrO.val hv
end Go.Proofs.YtdijffojppjmfaaDoor
