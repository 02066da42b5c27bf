/- The law SyntaxOne, walked. -/
import Derived.Test.YtdijffojppjmfaaDoorSh
import Derived.Test.YtdijffojppjmfaaDoorVa
import Derived.Test.YtdijffojppjmfaaDoorVd
import Derived.Test.YtdijffojppjmfaaDoorWLast
set_option linter.unusedVariables false
set_option linter.unusedSimpArgs false
namespace Go.Proofs.YtdijffojppjmfaaDoor
open Go.RowKit Bir Go.BW Go.Proofs.YtdijffojppjmfaaDoorW.PrintLast
theorem own_val {w : World} {s : Str} {x : Pr} {a k : Nat} (hs : s.length ≤ 20001) (hlev : LevAt w w.heap.size) (h : parseP s = (some x, a, k)) :
    Calls Tryd.prog 14 #[.string (ba s)] w fun en w' => Below w.heap.size w w' ∧ ∃ A0 c0 A1 c1 bs, en = .returned (.tuple #[.agg #[.slice A0 x.arrays.length c0, .slice A1 x.funcs.length c1], .int .i64 a, .int .i64 k]) ∧ w.heap.size ≤ bs ∧ bs ≤ w'.heap.size ∧ POwn w' bs (.slice A0 x.arrays.length c0) (.slice A1 x.funcs.length c1) x.arrays x.funcs := by
  refine (parse_some (parse_own s hs hlev) h).mono ?_
  rintro en w' ⟨hb, v, rfl, av, fv, bs, rfl, hbs, ho⟩
  obtain ⟨A0, c0, rfl⟩ := ho.rowA
  obtain ⟨A1, c1, rfl⟩ := ho.rowF
  cases A0 with
  | some g => exact ⟨hb, some g, c0, A1, c1, bs, rfl, hbs, by have := ho.ge.1 g.block rfl; omega, ho⟩
  | none =>
    cases A1 with
    | some g => exact ⟨hb, none, c0, some g, c1, bs, rfl, hbs, by have := ho.ge.2 g.block rfl; omega, ho⟩
    | none =>
      refine ⟨hb, none, c0, none, c1, w.heap.size, rfl, Nat.le_refl _, hb.size, ?_⟩
      obtain ⟨h1, _, cs, h2, _⟩ := ho
      rcases h1.2 with ⟨e1, n1⟩ | ⟨g, cap, cur, e1, _⟩
      · rcases h2.2 with ⟨e2, n2⟩ | ⟨g, cap, cur, e2, _⟩
        · rw [e1, e2, List.eq_nil_of_length_eq_zero n1, List.eq_nil_of_length_eq_zero n2]
          exact POwn.nil _ _
        · cases e2
      · cases e1
/-- What the last region wants, laid out of what was done. -/
theorem one_end {w W3 WE : World} {a1 a2 a3 be : Nat} {A0 A1 B0 B1 C0 C1 A8 A9 : Option Addr} {c0 c1 d0 d1 f0 g1 c8 c9 : Nat} {x y z : Pr} {T : Prop}
    (hpq : cells2 W3 a1 (.slice A0 x.arrays.length c0) (.slice A1 x.funcs.length c1) ∧ cells2 W3 a2 (.slice B0 y.arrays.length d0) (.slice B1 y.funcs.length d1))
    (hrr : W3.cell? ⟨a3, 0, none⟩ = some (.slice C0 z.arrays.length f0) ∧ W3.cell? ⟨a3, 1, none⟩ = some (.slice C1 z.funcs.length g1))
    (hle : a1 ≤ a2 ∧ a1 ≤ a3)
    (hfin : cells2 WE be (.slice A8 (x.arrays.length + y.arrays.length) c8) (.slice A9 (x.funcs.length + y.funcs.length) c9) ∧ Below w.heap.size W3 WE ∧ (∀ c o u, a1 ≤ c → W3.cell? ⟨c, o, none⟩ = some u → WE.cell? ⟨c, o, none⟩ = some u) ∧
      ArrRow WE (fun _ => True) (.slice A8 (x.arrays.length + y.arrays.length) c8) (x.arrays ++ y.arrays) ∧ FnRow WE (fun _ => True) (.slice A9 (x.funcs.length + y.funcs.length) c9) (x.funcs ++ y.funcs) ∧ FnRow WE (fun _ => True) (.slice A1 x.funcs.length c1) x.funcs ∧ FnRow WE (fun _ => True) (.slice B1 y.funcs.length d1) y.funcs ∧
      ArrRow WE (fun _ => True) (.slice C0 z.arrays.length f0) z.arrays ∧ FnRow WE (fun _ => True) (.slice C1 z.funcs.length g1) z.funcs)
    (hz : z = ⟨x.arrays ++ y.arrays, x.funcs ++ y.funcs⟩) (hb3 : Below w.heap.size w W3) (hl : LevAt w w.heap.size)
    (hs1 : x.arrays.length + x.funcs.length + sizeP x.funcs ≤ 20001) (hs2 : y.arrays.length + y.funcs.length + sizeP y.funcs ≤ 20001)
    (hp1 : ∀ f ∈ x.funcs, f.params.length ≤ 1000000) (hp2 : ∀ f ∈ y.funcs, f.params.length ≤ 1000000)
    (h : WE.cell? ⟨a1, 0, none⟩ = some (.slice A0 x.arrays.length c0) → WE.cell? ⟨a1, 1, none⟩ = some (.slice A1 x.funcs.length c1) → WE.cell? ⟨a2, 0, none⟩ = some (.slice B0 y.arrays.length d0) → WE.cell? ⟨a2, 1, none⟩ = some (.slice B1 y.funcs.length d1) →
      WE.cell? ⟨a3, 0, none⟩ = some (.slice C0 z.arrays.length f0) → WE.cell? ⟨a3, 1, none⟩ = some (.slice C1 z.funcs.length g1) → WE.cell? ⟨be, 0, none⟩ = some (.slice A8 (x.arrays.length + y.arrays.length) c8) → WE.cell? ⟨be, 1, none⟩ = some (.slice A9 (x.funcs.length + y.funcs.length) c9) →
      Hid (∀ w', Below WE.heap.size WE w' → Calls Tryd.prog 18 #[.agg #[.slice C0 z.arrays.length f0, .slice C1 z.funcs.length g1], .agg #[.slice A8 (x.arrays.length + y.arrays.length) c8, .slice A9 (x.funcs.length + y.funcs.length) c9]] w' fun en w2 => en = .returned (.bool true) ∧ Below WE.heap.size WE w2) →
      Hid (∀ w', Below WE.heap.size WE w' → Calls Tryd.prog 26 #[.agg #[.slice C0 z.arrays.length f0, .slice C1 z.funcs.length g1]] w' fun en w2 => en = .returned (.int .i64 ((sizeP x.funcs : Int) + (sizeP y.funcs : Int))) ∧ Below WE.heap.size WE w2) →
      Hid (∀ w', Below WE.heap.size WE w' → Calls Tryd.prog 26 #[.agg #[.slice A0 x.arrays.length c0, .slice A1 x.funcs.length c1]] w' fun en w2 => en = .returned (.int .i64 (sizeP x.funcs)) ∧ Below WE.heap.size WE w2) →
      Hid (∀ w', Below WE.heap.size WE w' → Calls Tryd.prog 26 #[.agg #[.slice B0 y.arrays.length d0, .slice B1 y.funcs.length d1]] w' fun en w2 => en = .returned (.int .i64 (sizeP y.funcs)) ∧ Below WE.heap.size WE w2) →
      Hid (∀ w', Below WE.heap.size WE w' → Calls Tryd.prog 17 #[] w' fun en w2 => en = .returned (.bool true) ∧ Below WE.heap.size WE w2) →
      Hid (Below WE.heap.size WE WE.drew) → IntKind.i64.wrap ((sizeP x.funcs : Int) + (sizeP y.funcs : Int)) = (sizeP x.funcs : Int) + (sizeP y.funcs : Int) → Hid (Below w.heap.size w WE) →
      a1 < WE.heap.size → a2 < WE.heap.size → a3 < WE.heap.size → be < WE.heap.size → T) : T := by
  obtain ⟨fc, fb, fk, fa1, ff2, ffx, ffy, fza, fzf⟩ := hfin
  have hbw := hb3.trans fb
  have hlw := lev_below hl hbw
  have eA : x.arrays ++ y.arrays = z.arrays := by rw [hz]
  have eF : x.funcs ++ y.funcs = z.funcs := by rw [hz]
  rw [eA] at fa1
  rw [eF] at ff2
  have hsz : sizeP z.funcs = sizeP x.funcs + sizeP y.funcs := by rw [← eF, sizeP_app]
  have hlA : z.arrays.length = x.arrays.length + y.arrays.length := by rw [← eA, List.length_append]
  have hlF : z.funcs.length = x.funcs.length + y.funcs.length := by rw [← eF, List.length_append]
  have hpz : ∀ f ∈ z.funcs, f.params.length ≤ 1000000 := fun f hf => by
    rw [← eF] at hf
    exact (List.mem_append.1 hf).elim (hp1 f) (hp2 f)
  have c0 := fk a1 0 _ (Nat.le_refl _) hpq.1.1
  have c1 := fk a1 1 _ (Nat.le_refl _) hpq.1.2
  have c2 := fk a2 0 _ hle.1 hpq.2.1
  have c3 := fk a2 1 _ hle.1 hpq.2.2
  have c4 := fk a3 0 _ hle.2 hrr.1
  have c5 := fk a3 1 _ hle.2 hrr.2
  refine h c0 c1 c2 c3 c4 c5 fc.1 fc.2 (Lib.hid fun w' hw => ?_) (Lib.hid fun w' hw => ?_) (Lib.hid fun w' hw => ?_) (Lib.hid fun w' hw => ?_) (Lib.hid fun w' hw => ?_) (Lib.hid (Below.refl _ WE).drew) (IntWalk.i64_in _ (by omega)) (Lib.hid hbw) (World.block_lt_of_cell? WE _ c0) (World.block_lt_of_cell? WE _ c2) (World.block_lt_of_cell? WE _ c4) (World.block_lt_of_cell? WE _ fc.1)
  · exact (same_eq z (by omega) hpz (row_below fza hw) (fn_below fzf hw) (row_below fa1 hw) (fn_below ff2 hw)).mono fun en w2 h => ⟨h.1, hw.trans (h.2.mono hw.size)⟩
  · refine (size_calls z.funcs (by omega) (fn_below fzf hw)).mono fun en w2 h => ⟨?_, hw.trans (h.2.mono hw.size)⟩
    rw [h.1, hsz]
    rfl
  · exact (size_calls x.funcs (by omega) (fn_below ffx hw)).mono fun en w2 h => ⟨h.1, hw.trans (h.2.mono hw.size)⟩
  · exact (size_calls y.funcs (by omega) (fn_below ffy hw)).mono fun en w2 h => ⟨h.1, hw.trans (h.2.mono hw.size)⟩
  · exact (alive_calls (lev_below hlw hw)).mono fun en w2 h => ⟨h.1, hw.trans (h.2.mono hw.size)⟩
set_option maxRecDepth 100000 in
set_option maxHeartbeats 8000000 in
theorem one_calls {w : World} (s0 t0 : Str) (hs0 : s0.length ≤ 9223372036854775807) (ht0 : t0.length ≤ 9223372036854775807) (hlev : LevAt w w.heap.size)
    (hpar : ∀ s x a k, s.length ≤ 20001 → parseP s = (some x, a, k) → ∀ f ∈ x.funcs, f.params.length ≤ 1000000) :
    Calls Tryd.prog 9 #[.string (ba s0), .string (ba t0)] w fun en w' => en = .returned (.bool true) ∧ Below w.heap.size w w' := by
  have hlen1 := take_len s0
  have hlen2 := take_len t0
  have HSH1 := Lib.hid (short_calls s0 hs0 w)
  have HSH2 := Lib.hid (short_calls t0 ht0 w)
  generalize s0.take 20001 = s at hlen1 HSH1
  generalize t0.take 20001 = t at hlen2 HSH2
  have HLN1 := Lib.hid hlen1
  have HLN2 := Lib.hid hlen2
  rcases hP1 : parseP s with ⟨r1, a1, k1⟩
  rcases hP2 : parseP t with ⟨r2, a2, k2⟩
  have HL := Lib.hid hlev
  have HP1 := Lib.hid hP1
  have HP2 := Lib.hid hP2
  clear hlev hP1 hP2 hs0 ht0
  by_cases hgo : k1 = 0 ∧ k2 = 0 ∧ s.length + t.length < 20000
  · obtain ⟨rfl, rfl, hlt⟩ := hgo
    obtain ⟨x, rfl⟩ : ∃ x, r1 = some x := by cases r1 with
      | none => exact absurd rfl (parseP_none hlen1 HP1.out)
      | some x => exact ⟨x, rfl⟩
    obtain ⟨y, rfl⟩ : ∃ y, r2 = some y := by cases r2 with
      | none => exact absurd rfl (parseP_none hlen2 HP2.out)
      | some x => exact ⟨x, rfl⟩
    have hone := one_law hlen1 hlen2 HP1.out HP2.out hlt
    have HPA1 := Lib.hid (hpar s x a1 0 hlen1 HP1.out)
    have HPA2 := Lib.hid (hpar t y a2 0 hlen2 HP2.out)
    have HSZ1 := Lib.hid (parsed_size hlen1 HP1.out)
    have HSZ2 := Lib.hid (parsed_size hlen2 HP2.out)
    have e2 : decide ((20000 : Int) ≤ (s.length : Int) + (t.length : Int)) = false := by simp; omega
    have hx : ba s ++ { data := #[10] } ++ ba t = ba (s ++ 10 :: t) := by
      show ba s ++ ba [10] ++ ba t = _
      rw [ba_app', ba_app']
      simp
    have HX := Lib.hid hx
    have hll : (s ++ 10 :: t).length ≤ 20001 := by simp; omega
    have HLL := Lib.hid hll
    clear hx hll hpar
    by_cases hc : x.arrays.length + y.arrays.length ≤ 16 ∧ x.funcs.length + y.funcs.length ≤ 40
    · have h0 := hc
      clear h0
      obtain ⟨z, hz⟩ : ∃ z : Pr, z = ⟨x.arrays ++ y.arrays, x.funcs ++ y.funcs⟩ := ⟨_, rfl⟩
      have hn := hone.1 hc
      rw [← hz] at hn
      have HN := Lib.hid hn
      have HZE := Lib.hid hz
      clear hn hz
      have hxs := HSZ1.out
      have hys := HSZ2.out
      have f1 : decide ((16 : Int) < (x.arrays.length : Int) + (y.arrays.length : Int)) = false := by simp; omega
      have f2 : decide ((40 : Int) < (x.funcs.length : Int) + (y.funcs.length : Int)) = false := by simp; omega
      clear hone
      go_enter Tryd.func9, Tryd.ntmps9
      go_wp2_with fail
      refine HSH1.out.mono ?_
      rintro en w0 ⟨rfl, rfl⟩
      go_wp2_with fail
      refine HSH2.out.mono ?_
      rintro en w0 ⟨rfl, rfl⟩
      go_wp2_with fail
      refine (own_val (w := w) HLN1.out HL.out HP1.out).mono ?_
      rintro en w1 ⟨hb1, A0, c0, A1, c1, bs, rfl, hbs, hbt, ho⟩
      have hbx := hb1.alloc hb1.size (.cells #[.slice A0 x.arrays.length c0, .slice A1 x.funcs.length c1] 26)
      have HO1 := Lib.hid (ho.keep (Ext.of_below ((Below.refl _ w1).alloc (Nat.le_refl _) (.cells #[.slice A0 x.arrays.length c0, .slice A1 x.funcs.length c1] 26)) (fun _ => False)) (fun _ h => h.elim))
      have HG1 := Lib.hid ho.ge
      have HQ1 := Lib.hid (cells2.new w1 (.slice A0 x.arrays.length c0) (.slice A1 x.funcs.length c1) 26)
      have HB1 := Lib.hid hbx
      have HL1 := Lib.hid (lev_below HL.out HB1.out)
      have HW01 := Lib.hid hb1.size
      have HOB : Hid (bs + 1 ≤ w1.heap.size + 1) := Lib.hid (by omega)
      have HN1 : Hid (w1.heap.size + 1 = (w1.alloc (.cells #[.slice A0 x.arrays.length c0, .slice A1 x.funcs.length c1] 26)).heap.size) := Lib.hid (World.size_alloc _ _).symm
      clear hb1 hbx ho
      go_wp2_with fail
      generalize w1.alloc (.cells #[.slice A0 x.arrays.length c0, .slice A1 x.funcs.length c1] 26) = W1 at HB1 HL1 HQ1 HO1 HN1 ⊢
      refine (parse_val (w := W1) HLN2.out HL1.out HP2.out).mono ?_
      rintro en w2 ⟨hb2, B0, d0, B1, d1, rfl, hqa, hqf⟩
      have hbx : Below w2.heap.size w2 (w2.alloc (.cells #[.slice B0 y.arrays.length d0, .slice B1 y.funcs.length d1] 26)) := (Below.refl _ _).alloc (Nat.le_refl _) _
      have hbb := hb2.trans (hbx.mono hb2.size)
      have HO2 := Lib.hid (HO1.out.keep (Ext.of_below hbb (fun _ => False)) (fun _ h => h.elim))
      have HQ2 := Lib.hid (cells2_step HQ1.out hbb)
      have HR2 := Lib.hid (cells2.new w2 (.slice B0 y.arrays.length d0) (.slice B1 y.funcs.length d1) 26)
      have HA2 := Lib.hid (VRow.keep hqa (ok' := From W1.heap.size) hbx.size fun b hb hl => ⟨hbx.block b hl, hb⟩)
      have HF2 := Lib.hid (FnRow.keep hqf (ok' := From W1.heap.size) hbx.size fun b hb hl => ⟨hbx.block b hl, hb⟩)
      have HZ := Lib.hid (Nat.le_trans hb2.size hbx.size)
      have HW12 := Lib.hid hb2.size
      have HB2 := Lib.hid (HB1.out.trans (hbb.mono HB1.out.size))
      have HL2 := Lib.hid (lev_below HL.out HB2.out)
      clear hb2 hbx hbb hqa hqf
      go_wp2_with fail
      generalize w2.alloc (.cells #[.slice B0 y.arrays.length d0, .slice B1 y.funcs.length d1] 26) = W2 at HB2 HL2 HQ2 HR2 HO2 HA2 HF2 HZ ⊢
      rw [HX.out]
      refine (parse_val (w := W2) HLL.out HL2.out HN.out).mono ?_
      rintro en w3 ⟨hb3, C0, f0, C1, g1, rfl, hra, hrf⟩
      have hbx : Below w3.heap.size w3 (w3.alloc (.cells #[.slice C0 z.arrays.length f0, .slice C1 z.funcs.length g1] 26)) := (Below.refl _ _).alloc (Nat.le_refl _) _
      have hbb := hb3.trans (hbx.mono hb3.size)
      have HW23 := Lib.hid hb3.size
      have HO3 := Lib.hid (HO2.out.keep (Ext.of_below hbb (fun _ => False)) (fun _ h => h.elim))
      obtain ⟨p0, p1⟩ := cells2_step HQ2.out hbb
      obtain ⟨q0, q1⟩ := cells2_step HR2.out hbb
      have HR3 := Lib.hid (cells2.new w3 (.slice C0 z.arrays.length f0) (.slice C1 z.funcs.length g1) 26)
      have HA3 := Lib.hid (VRow.keep HA2.out (ok' := From W1.heap.size) hbb.size fun b hb hl => ⟨hbb.block b hl, hb⟩)
      have HF3 := Lib.hid (FnRow.keep HF2.out (ok' := From W1.heap.size) hbb.size fun b hb hl => ⟨hbb.block b hl, hb⟩)
      have HRA := Lib.hid (VRow.keep hra (ok' := From W2.heap.size) hbx.size fun b hb hl => ⟨hbx.block b hl, hb⟩)
      have HRF := Lib.hid (FnRow.keep hrf (ok' := From W2.heap.size) hbx.size fun b hb hl => ⟨hbx.block b hl, hb⟩)
      have HB3 := Lib.hid (HB2.out.trans (hbb.mono HB2.out.size))
      have HL3 := Lib.hid (lev_below HL.out HB3.out)
      clear hb3 hbx hbb hra hrf HO1 HO2 HQ1 HQ2 HR2 HA2 HF2
      go_wp2_with fail
      -- REGION
      obtain ⟨csx, hf0, csx', hf1, hcx, rfl⟩ := HO3.out.funcs
      obtain ⟨csy, hq3, hcy⟩ := HF3.out
      have hle : w1.heap.size ≤ W1.heap.size := by have := HN1.out; omega
      have HI : Hid (OneIn (w3.alloc (.cells #[.slice C0 z.arrays.length f0, .slice C1 z.funcs.length g1] 26)) bs w1.heap.size (.slice A0 x.arrays.length c0) (.slice A1 x.funcs.length c1) (.slice B0 y.arrays.length d0) (.slice B1 y.funcs.length d1) (.slice C0 z.arrays.length f0) (.slice C1 z.funcs.length g1) x y z csx' csy) := Lib.hid {
        own := HO3.out
        lt := fun k hk => hk.elim (fun h => (HG1.out.1 k h).2) (fun h => (HG1.out.2 k h).2)
        n_le := by have := HZ.out; have := HW23.out; rw [World.size_alloc]; omega
        f := hf0
        cx := hcx
        qa := VRow.keep HA3.out (Nat.le_refl _) fun b hb _ => ⟨rfl, Nat.le_trans hle hb⟩
        qf := VRow.keep hq3 (Nat.le_refl _) fun b hb _ => ⟨rfl, Nat.le_trans hle hb⟩
        cy := hcy.keep (Nat.le_refl _) fun b hb _ => ⟨rfl, Nat.le_trans hle hb⟩
        za := VRow.keep HRA.out (Nat.le_refl _) fun b hb _ => ⟨rfl, Nat.le_trans hle (Nat.le_trans HZ.out hb)⟩
        zf_ := FnRow.keep HRF.out (Nat.le_refl _) fun b hb _ => ⟨rfl, Nat.le_trans hle (Nat.le_trans HZ.out hb)⟩ }
      clear hf0 hcx hq3 hcy HA3 HF3 HRA HRF hf1
      have HBN := Lib.hid hbs
      have HR3' := HR3.out
      have hlt7 : w1.heap.size < (w3.alloc (.cells #[.slice C0 z.arrays.length f0, .slice C1 z.funcs.length g1] 26)).heap.size := by have := HN1.out; have := HZ.out; have := HW23.out; rw [World.size_alloc]; omega
      have hle10 : w1.heap.size ≤ w2.heap.size := by have := HN1.out; have := HW12.out; omega
      have hle13 : w1.heap.size ≤ w3.heap.size := by have := HN1.out; have := HZ.out; have := HW23.out; omega
      have HLE := Lib.hid (And.intro hle10 hle13)
      have HBS0 := Lib.hid (show bs + 1 ≤ (w3.alloc (.cells #[.slice C0 z.arrays.length f0, .slice C1 z.funcs.length g1] 26)).heap.size by have := HOB.out; omega)
      generalize (w3.alloc (.cells #[.slice C0 z.arrays.length f0, .slice C1 z.funcs.length g1] 26)) = W3 at *
      have HPQ := Lib.hid (And.intro (And.intro p0 p1) (And.intro q0 q1))
      obtain ⟨r0, r1⟩ := HR3'
      have HRR := Lib.hid (And.intro r0 r1)
      have HN16 : Hid (x.arrays.length + y.arrays.length ≤ 100 ∧ x.funcs.length + y.funcs.length ≤ 100) := Lib.hid (by omega)
      clear r0 r1 hle hle10 hle13 hlt7 e2 f1 f2 hlt hc hxs hys hlen1 hlen2 hbs HR3
      refine wp_region_last_drew (S := fun w' => cells2 w' w1.heap.size (.slice A0 x.arrays.length c0) (.slice A1 x.funcs.length c1) ∧ cells2 w' w2.heap.size (.slice B0 y.arrays.length d0) (.slice B1 y.funcs.length d1)) (ds := [12]) (by kernel_rfl) ⟨⟨p0, p1⟩, q0, q1⟩ (fun hHeld => ?_)
      refine last_pure (i := 0) (v := .pointer (some ⟨w1.heap.size, 0, none⟩)) rfl (by kernel_rfl) (by kernel_rfl) (by kernel_rfl) (fun _ _ _ h => h) (Or.inl ⟨by rfl, ?_⟩) ?_
      · intro w'
        go_simp
      (try simp only [Act.put, List.getElem_toArray, List.getElem_cons_zero, List.getElem_cons_succ, List.setIfInBounds_toArray, List.set_cons_zero, List.set_cons_succ])
      refine wpAnyLast_take (i := 1) (v := .slice A0 x.arrays.length c0) rfl (by kernel_rfl) (by kernel_rfl) (by kernel_rfl) (by kernel_rfl) (by kernel_rfl) (fun _ _ _ h => h) (Or.inl ⟨by rfl, ?_⟩) hHeld ?_
      · rintro w' ⟨⟨a1, a2⟩, a3, a4⟩
        go_simp
      (try simp only [Act.put, List.getElem_toArray, List.getElem_cons_zero, List.getElem_cons_succ, List.setIfInBounds_toArray, List.set_cons_zero, List.set_cons_succ])
      refine last_pure (i := 2) (v := .pointer (some ⟨w2.heap.size, 0, none⟩)) rfl (by kernel_rfl) (by kernel_rfl) (by kernel_rfl) (fun _ _ _ h => h) (Or.inl ⟨by rfl, ?_⟩) ?_
      · intro w'
        go_simp
      (try simp only [Act.put, List.getElem_toArray, List.getElem_cons_zero, List.getElem_cons_succ, List.setIfInBounds_toArray, List.set_cons_zero, List.set_cons_succ])
      refine wpAnyLast_take (i := 3) (v := .slice B0 y.arrays.length d0) rfl (by kernel_rfl) (by kernel_rfl) (by kernel_rfl) (by kernel_rfl) (by kernel_rfl) (fun _ _ _ h => h) (Or.inl ⟨by rfl, ?_⟩) hHeld ?_
      · rintro w' ⟨⟨a1, a2⟩, a3, a4⟩
        go_simp
      (try simp only [Act.put, List.getElem_toArray, List.getElem_cons_zero, List.getElem_cons_succ, List.setIfInBounds_toArray, List.set_cons_zero, List.set_cons_succ])
      refine last_pure (i := 5) (v := .pointer (some ⟨w1.heap.size, 1, none⟩)) rfl (by kernel_rfl) (by kernel_rfl) (by kernel_rfl) (fun _ _ _ h => h) (Or.inl ⟨by rfl, ?_⟩) ?_
      · intro w'
        go_simp
      (try simp only [Act.put, List.getElem_toArray, List.getElem_cons_zero, List.getElem_cons_succ, List.setIfInBounds_toArray, List.set_cons_zero, List.set_cons_succ])
      refine wpAnyLast_take (i := 6) (v := .slice A1 x.funcs.length c1) rfl (by kernel_rfl) (by kernel_rfl) (by kernel_rfl) (by kernel_rfl) (by kernel_rfl) (fun _ _ _ h => h) (Or.inl ⟨by rfl, ?_⟩) hHeld ?_
      · rintro w' ⟨⟨a1, a2⟩, a3, a4⟩
        go_simp
      (try simp only [Act.put, List.getElem_toArray, List.getElem_cons_zero, List.getElem_cons_succ, List.setIfInBounds_toArray, List.set_cons_zero, List.set_cons_succ])
      refine last_pure (i := 7) (v := .pointer (some ⟨w2.heap.size, 1, none⟩)) rfl (by kernel_rfl) (by kernel_rfl) (by kernel_rfl) (fun _ _ _ h => h) (Or.inl ⟨by rfl, ?_⟩) ?_
      · intro w'
        go_simp
      (try simp only [Act.put, List.getElem_toArray, List.getElem_cons_zero, List.getElem_cons_succ, List.setIfInBounds_toArray, List.set_cons_zero, List.set_cons_succ])
      refine wpAnyLast_take (i := 8) (v := .slice B1 y.funcs.length d1) rfl (by kernel_rfl) (by kernel_rfl) (by kernel_rfl) (by kernel_rfl) (by kernel_rfl) (fun _ _ _ h => h) (Or.inl ⟨by rfl, ?_⟩) hHeld ?_
      · rintro w' ⟨⟨a1, a2⟩, a3, a4⟩
        go_simp
      (try simp only [Act.put, List.getElem_toArray, List.getElem_cons_zero, List.getElem_cons_succ, List.setIfInBounds_toArray, List.set_cons_zero, List.set_cons_succ])
      have HBS : Hid (bs + 1 ≤ W3.heap.size) := HBS0
      have HB1S : Hid (w.heap.size ≤ w1.heap.size) := HW01
      have HI' := Lib.hid (HI.out.moved (w0 := W3.drew) ((Ext.refl _ W3).drew))
      have HS0 : Hid (cells2 W3.drew w1.heap.size (.slice A0 x.arrays.length c0) (.slice A1 x.funcs.length c1) ∧ cells2 W3.drew w2.heap.size (.slice B0 y.arrays.length d0) (.slice B1 y.funcs.length d1)) := Lib.hid ⟨HPQ.out.1, HPQ.out.2⟩
      clear p0 p1 q0 q1
      refine wpAnyLast_ready (rs := [4, 11]) (by kernel_rfl) (by simp) ?_
      refine AllReadyL.cons rfl (by decide) (fun K4 hK4 => ?_) (AllReadyL.cons rfl (by decide) (fun K11 hK11 => ?_) AllReadyL.nil)
      · -- the arrays first
        simp only [List.getElem_toArray, List.getElem_cons_zero, List.getElem_cons_succ]
        rw [if_pos (by rfl)]
        refine append_row_op W3.drew (bs + 1) _ _ 23 73 _ 2 24 rfl Tryd.underlying23 infoArr rfl (by decide) (by decide) (.slice A0 x.arrays.length c0) x.arrays.length (arrCells x.arrays) (by rfl) (by exact HI'.out.own.1) B0 y.arrays.length d0 (arrCells y.arrays) (by rfl) (by exact HI'.out.qa) (by exact arrCells_one _) (by have := HN16.out; omega) (by exact HBS.out) ?_
        intro v1 wa hown1 hx1 hat1 _
        obtain ⟨A8, c8, rfl, _⟩ := (VRow.of_own hown1).slice
        have HA := Lib.hid (And.intro hown1 (And.intro hx1 hat1))
        clear hown1 hx1 hat1
        have HBSA : Hid (bs + 1 ≤ wa.heap.size) := Lib.hid (Nat.le_trans (by exact HBS.out) HA.out.2.1.size)
        have HSA : Hid (cells2 wa w1.heap.size (.slice A0 x.arrays.length c0) (.slice A1 x.funcs.length c1) ∧ cells2 wa w2.heap.size (.slice B0 y.arrays.length d0) (.slice B1 y.funcs.length d1)) := Lib.hid ⟨HS0.out.1.ext HA.out.2.1 (fun hs => by have := HI'.out.lt _ (.inl hs); omega), HS0.out.2.ext HA.out.2.1 (fun hs => by have := HI'.out.lt _ (.inl hs); have := HLE.out.1; omega)⟩
        refine hK4.out _ _ HSA.out (fun _ => ?_)
        (try simp only [Act.put, List.getElem_toArray, List.getElem_cons_zero, List.getElem_cons_succ, List.setIfInBounds_toArray, List.set_cons_zero, List.set_cons_succ])
        refine wpAnyLast_ready (rs := [9, 11]) (by kernel_rfl) (by simp) ?_
        refine AllReadyL.cons rfl (by decide) (fun K5 hK5 => ?_) (AllReadyL.cons rfl (by decide) (fun K6 hK6 => ?_) AllReadyL.nil)
        · -- then the functions
          simp only [List.getElem_toArray, List.getElem_cons_zero, List.getElem_cons_succ]
          rw [if_pos (by rfl)]
          have hmid := OneIn.mid HI'.out HA.out.2.1 (Ext.refl _ wa)
          have HMID := Lib.hid hmid
          have hcyo := FnCells.one HI'.out.cy
          refine append_row_op wa (bs + 1) _ _ 24 76 _ 3 64 rfl Tryd.underlying24 infoFn rfl (by decide) (by decide) (.slice A1 x.funcs.length c1) x.funcs.length csx' (by rfl) (by exact HMID.out.1) B1 y.funcs.length d1 csy (by rfl) (by exact HMID.out.2) (by exact hcyo) (by have := HN16.out; omega) (by exact Nat.le_trans HBSA.out (((Ext.refl _ wa) : Ext (fun _ => False) wa _)).size) ?_
          intro v2 wf hown2 hx2 hat2 hold
          obtain ⟨A9, c9, rfl, _⟩ := (VRow.of_own hown2).slice
          have HF := Lib.hid (And.intro hown2 (And.intro hx2 (And.intro hat2 hold)))
          clear hown2 hx2 hat2 hold hmid hcyo
          have HSF : Hid (cells2 wf w1.heap.size (.slice A0 x.arrays.length c0) (.slice A1 x.funcs.length c1) ∧ cells2 wf w2.heap.size (.slice B0 y.arrays.length d0) (.slice B1 y.funcs.length d1)) := Lib.hid ⟨HSA.out.1.ext HF.out.2.1 (fun hs => by have := HI'.out.lt _ (.inr hs); omega), HSA.out.2.ext HF.out.2.1 (fun hs => by have := HI'.out.lt _ (.inr hs); have := HLE.out.1; omega)⟩
          refine hK5.out _ _ HSF.out (fun _ => ?_)
          (try simp only [Act.put, List.getElem_toArray, List.getElem_cons_zero, List.getElem_cons_succ, List.setIfInBounds_toArray, List.set_cons_zero, List.set_cons_succ])
          refine last_pure (i := 10) (v := .agg #[.slice A8 (x.arrays.length + y.arrays.length) c8, .slice A9 (x.funcs.length + y.funcs.length) c9]) rfl (by kernel_rfl) (by kernel_rfl) (by kernel_rfl) (fun _ _ _ h => h) (Or.inl ⟨by rfl, ?_⟩) ?_
          · intro w'
            go_simp
          (try simp only [Act.put, List.getElem_toArray, List.getElem_cons_zero, List.getElem_cons_succ, List.setIfInBounds_toArray, List.set_cons_zero, List.set_cons_succ])
          refine wpAnyLast_ready (rs := [11]) (by kernel_rfl) (by simp) ?_
          refine AllReadyL.cons rfl (by decide) (fun K7 hK7 => ?_) AllReadyL.nil
          go_simp
          have HSL : Hid (cells2 (wf.alloc (.cells #[.slice none 0 0, .slice none 0 0] 26)) w1.heap.size (.slice A0 x.arrays.length c0) (.slice A1 x.funcs.length c1) ∧ cells2 (wf.alloc (.cells #[.slice none 0 0, .slice none 0 0] 26)) w2.heap.size (.slice B0 y.arrays.length d0) (.slice B1 y.funcs.length d1)) := Lib.hid ⟨HSF.out.1.ext (S := fun _ => False) ((Ext.refl _ wf).alloc _) id, HSF.out.2.ext (S := fun _ => False) ((Ext.refl _ wf).alloc _) id⟩
          have HC0 : Hid (cells2 (wf.alloc (.cells #[.slice none 0 0, .slice none 0 0] 26)) wf.heap.size (.slice none 0 0) (.slice none 0 0) ∧ ∀ o, (wf.alloc (.cells #[.slice none 0 0, .slice none 0 0] 26)).frozen? ⟨wf.heap.size, o, none⟩ = false) := Lib.hid ⟨cells2.new wf _ _ _, frozen_new wf _ _⟩
          refine hK7.out _ _ HSL.out (fun _ => ?_)
          (try simp only [Act.put, List.getElem_toArray, List.getElem_cons_zero, List.getElem_cons_succ, List.setIfInBounds_toArray, List.set_cons_zero, List.set_cons_succ])
          have HCX := HC0
          refine wpAnyLast_ready (rs := [12]) (by kernel_rfl) (by simp) ?_
          refine AllReadyL.cons_last rfl (by decide) (fun K9 hK9 => ?_) AllReadyL.nil
          obtain ⟨⟨g0, g1'⟩, gf⟩ := HCX.out
          have hfin := OneDid.fin (b := wf.heap.size) (m := w.heap.size) HI.out ({ e0 := (Ext.refl _ W3).drew, e1 := HA.out.2.1, e1' := Ext.refl _ wa, e2 := HF.out.2.1, e3 := (Ext.refl _ wf).alloc _, a1 := HA.out.1, at1 := HA.out.2.2, f2 := HF.out.1, at2 := HF.out.2.2.1, old := HF.out.2.2.2, g0 := fun k hk => by have := HA.out.2.1.size; have := HF.out.2.1.size; have : W3.drew.heap.size = W3.heap.size := rfl; omega, g1 := fun k _ hk => by have := HF.out.2.1.size; omega, g2 := fun k _ hk => by omega }) (by have := HA.out.2.1.size; have := HF.out.2.1.size; have : W3.drew.heap.size = W3.heap.size := rfl; omega) HCX.out.1 (by have := HBN.out; omega) (by have := HI.out.n_le; have := HB1S.out; omega)
          have HFIN := Lib.hid hfin
          clear hfin
          go_simp
          refine hK9.out _ _ ?_
          refine wpAnyLast_done (by kernel_rfl) ?_ _
          (try simp only [Act.put, List.getElem_toArray, List.getElem_cons_zero, List.getElem_cons_succ, List.setIfInBounds_toArray, List.set_cons_zero, List.set_cons_succ])
          clear g0 g1' gf hHeld hK9
          rw [show wf.alloc (.cells #[.slice A8 (x.arrays.length + y.arrays.length) c8, .slice A9 (x.funcs.length + y.funcs.length) c9] 26) = set2 (wf.alloc (.cells #[.slice none 0 0, .slice none 0 0] 26)) wf.heap.size (.slice A8 (x.arrays.length + y.arrays.length) c8) (.slice A9 (x.funcs.length + y.funcs.length) c9) from by show _ = ((wf.alloc (.cells #[.slice none 0 0, .slice none 0 0] 26)).setCell _ _).setCell _ _; rw [World.setCell_alloc_new, World.setCell_alloc_new]; rfl]
          generalize set2 (wf.alloc (.cells #[.slice none 0 0, .slice none 0 0] 26)) wf.heap.size (.slice A8 (x.arrays.length + y.arrays.length) c8) (.slice A9 (x.funcs.length + y.funcs.length) c9) = WE at HFIN ⊢
          generalize hbe : (wf.heap.size : Nat) = be at HFIN ⊢
          exact one_end HPQ.out HRR.out HLE.out HFIN.out HZE.out HB3.out HL.out HSZ1.out HSZ2.out HPA1.out HPA2.out (fun hp0 hp1 hq0 hq1 hr0 hr1 hs0 hs1 HC1 HC2 HC3 HC4 HC5 HR0 HSUM HBE l0 l1 l2 l3 => by
            go_wp2_with fail
            go_region_held3 (fun w' => (w'.cell? ⟨w1.heap.size, 0, none⟩ = some (.slice A0 x.arrays.length c0) ∧ w'.cell? ⟨w1.heap.size, 1, none⟩ = some (.slice A1 x.funcs.length c1) ∧ w'.cell? ⟨w2.heap.size, 0, none⟩ = some (.slice B0 y.arrays.length d0) ∧ w'.cell? ⟨w2.heap.size, 1, none⟩ = some (.slice B1 y.funcs.length d1)) ∧ w'.cell? ⟨w3.heap.size, 0, none⟩ = some (.slice C0 z.arrays.length f0) ∧ w'.cell? ⟨w3.heap.size, 1, none⟩ = some (.slice C1 z.funcs.length g1) ∧ w'.cell? ⟨be, 0, none⟩ = some (.slice A8 (x.arrays.length + y.arrays.length) c8) ∧ w'.cell? ⟨be, 1, none⟩ = some (.slice A9 (x.funcs.length + y.funcs.length) c9)) (go_keep)
              (first
                | (go_at_call 18; (with_reducible refine (HC1.out _ ?_).mono ?_); (first | exact hbW | exact HR0.out); rintro en w5 ⟨rfl, hbW⟩; have k0 := (hbW.cell (p := ⟨w1.heap.size, 0, none⟩) l0).trans hp0; have k1 := (hbW.cell (p := ⟨w1.heap.size, 1, none⟩) l0).trans hp1; have k2 := (hbW.cell (p := ⟨w2.heap.size, 0, none⟩) l1).trans hq0; have k3 := (hbW.cell (p := ⟨w2.heap.size, 1, none⟩) l1).trans hq1; have k4 := (hbW.cell (p := ⟨w3.heap.size, 0, none⟩) l2).trans hr0; have k5 := (hbW.cell (p := ⟨w3.heap.size, 1, none⟩) l2).trans hr1; have k6 := (hbW.cell (p := ⟨be, 0, none⟩) l3).trans hs0; have k7 := (hbW.cell (p := ⟨be, 1, none⟩) l3).trans hs1)
                | (go_at_call 26; (with_reducible refine (HC2.out _ ?_).mono ?_); (first | exact hbW | exact HR0.out); rintro en w5 ⟨rfl, hbW⟩; have k0 := (hbW.cell (p := ⟨w1.heap.size, 0, none⟩) l0).trans hp0; have k1 := (hbW.cell (p := ⟨w1.heap.size, 1, none⟩) l0).trans hp1; have k2 := (hbW.cell (p := ⟨w2.heap.size, 0, none⟩) l1).trans hq0; have k3 := (hbW.cell (p := ⟨w2.heap.size, 1, none⟩) l1).trans hq1; have k4 := (hbW.cell (p := ⟨w3.heap.size, 0, none⟩) l2).trans hr0; have k5 := (hbW.cell (p := ⟨w3.heap.size, 1, none⟩) l2).trans hr1; have k6 := (hbW.cell (p := ⟨be, 0, none⟩) l3).trans hs0; have k7 := (hbW.cell (p := ⟨be, 1, none⟩) l3).trans hs1)
                | (go_at_call 26; (with_reducible refine (HC3.out _ ?_).mono ?_); (first | exact hbW | exact HR0.out); rintro en w5 ⟨rfl, hbW⟩; have k0 := (hbW.cell (p := ⟨w1.heap.size, 0, none⟩) l0).trans hp0; have k1 := (hbW.cell (p := ⟨w1.heap.size, 1, none⟩) l0).trans hp1; have k2 := (hbW.cell (p := ⟨w2.heap.size, 0, none⟩) l1).trans hq0; have k3 := (hbW.cell (p := ⟨w2.heap.size, 1, none⟩) l1).trans hq1; have k4 := (hbW.cell (p := ⟨w3.heap.size, 0, none⟩) l2).trans hr0; have k5 := (hbW.cell (p := ⟨w3.heap.size, 1, none⟩) l2).trans hr1; have k6 := (hbW.cell (p := ⟨be, 0, none⟩) l3).trans hs0; have k7 := (hbW.cell (p := ⟨be, 1, none⟩) l3).trans hs1)
                | (go_at_call 26; (with_reducible refine (HC4.out _ ?_).mono ?_); (first | exact hbW | exact HR0.out); rintro en w5 ⟨rfl, hbW⟩; have k0 := (hbW.cell (p := ⟨w1.heap.size, 0, none⟩) l0).trans hp0; have k1 := (hbW.cell (p := ⟨w1.heap.size, 1, none⟩) l0).trans hp1; have k2 := (hbW.cell (p := ⟨w2.heap.size, 0, none⟩) l1).trans hq0; have k3 := (hbW.cell (p := ⟨w2.heap.size, 1, none⟩) l1).trans hq1; have k4 := (hbW.cell (p := ⟨w3.heap.size, 0, none⟩) l2).trans hr0; have k5 := (hbW.cell (p := ⟨w3.heap.size, 1, none⟩) l2).trans hr1; have k6 := (hbW.cell (p := ⟨be, 0, none⟩) l3).trans hs0; have k7 := (hbW.cell (p := ⟨be, 1, none⟩) l3).trans hs1)
                | (go_at_call 17; (with_reducible refine (HC5.out _ ?_).mono ?_); (first | exact hbW | exact HR0.out); rintro en w5 ⟨rfl, hbW⟩; have k0 := (hbW.cell (p := ⟨w1.heap.size, 0, none⟩) l0).trans hp0; have k1 := (hbW.cell (p := ⟨w1.heap.size, 1, none⟩) l0).trans hp1; have k2 := (hbW.cell (p := ⟨w2.heap.size, 0, none⟩) l1).trans hq0; have k3 := (hbW.cell (p := ⟨w2.heap.size, 1, none⟩) l1).trans hq1; have k4 := (hbW.cell (p := ⟨w3.heap.size, 0, none⟩) l2).trans hr0; have k5 := (hbW.cell (p := ⟨w3.heap.size, 1, none⟩) l2).trans hr1; have k6 := (hbW.cell (p := ⟨be, 0, none⟩) l3).trans hs0; have k7 := (hbW.cell (p := ⟨be, 1, none⟩) l3).trans hs1))
            go_wp2_with fail
            go_ret
            exact ⟨rfl, HBE.out.trans (hbW.mono HBE.out.size)⟩)
        · -- then the block
          go_simp
          have HSL : Hid (cells2 (wa.alloc (.cells #[.slice none 0 0, .slice none 0 0] 26)) w1.heap.size (.slice A0 x.arrays.length c0) (.slice A1 x.funcs.length c1) ∧ cells2 (wa.alloc (.cells #[.slice none 0 0, .slice none 0 0] 26)) w2.heap.size (.slice B0 y.arrays.length d0) (.slice B1 y.funcs.length d1)) := Lib.hid ⟨HSA.out.1.ext (S := fun _ => False) ((Ext.refl _ wa).alloc _) id, HSA.out.2.ext (S := fun _ => False) ((Ext.refl _ wa).alloc _) id⟩
          have HC0 : Hid (cells2 (wa.alloc (.cells #[.slice none 0 0, .slice none 0 0] 26)) wa.heap.size (.slice none 0 0) (.slice none 0 0) ∧ ∀ o, (wa.alloc (.cells #[.slice none 0 0, .slice none 0 0] 26)).frozen? ⟨wa.heap.size, o, none⟩ = false) := Lib.hid ⟨cells2.new wa _ _ _, frozen_new wa _ _⟩
          refine hK6.out _ _ HSL.out (fun _ => ?_)
          (try simp only [Act.put, List.getElem_toArray, List.getElem_cons_zero, List.getElem_cons_succ, List.setIfInBounds_toArray, List.set_cons_zero, List.set_cons_succ])
          refine wpAnyLast_ready (rs := [9]) (by kernel_rfl) (by simp) ?_
          refine AllReadyL.cons rfl (by decide) (fun K7 hK7 => ?_) AllReadyL.nil
          simp only [List.getElem_toArray, List.getElem_cons_zero, List.getElem_cons_succ]
          rw [if_pos (by rfl)]
          have hmid := OneIn.mid HI'.out HA.out.2.1 ((Ext.refl _ wa).alloc (.cells #[.slice none 0 0, .slice none 0 0] 26))
          have HMID := Lib.hid hmid
          have hcyo := FnCells.one HI'.out.cy
          refine append_row_op (wa.alloc (.cells #[.slice none 0 0, .slice none 0 0] 26)) (bs + 1) _ _ 24 76 _ 3 64 rfl Tryd.underlying24 infoFn rfl (by decide) (by decide) (.slice A1 x.funcs.length c1) x.funcs.length csx' (by rfl) (by exact HMID.out.1) B1 y.funcs.length d1 csy (by rfl) (by exact HMID.out.2) (by exact hcyo) (by have := HN16.out; omega) (by exact Nat.le_trans HBSA.out ((((Ext.refl _ wa).alloc (.cells #[.slice none 0 0, .slice none 0 0] 26)) : Ext (fun _ => False) wa _)).size) ?_
          intro v2 wf hown2 hx2 hat2 hold
          obtain ⟨A9, c9, rfl, _⟩ := (VRow.of_own hown2).slice
          have HF := Lib.hid (And.intro hown2 (And.intro hx2 (And.intro hat2 hold)))
          clear hown2 hx2 hat2 hold hmid hcyo
          have HSF : Hid (cells2 wf w1.heap.size (.slice A0 x.arrays.length c0) (.slice A1 x.funcs.length c1) ∧ cells2 wf w2.heap.size (.slice B0 y.arrays.length d0) (.slice B1 y.funcs.length d1)) := Lib.hid ⟨HSL.out.1.ext HF.out.2.1 (fun hs => by have := HI'.out.lt _ (.inr hs); omega), HSL.out.2.ext HF.out.2.1 (fun hs => by have := HI'.out.lt _ (.inr hs); have := HLE.out.1; omega)⟩
          refine hK7.out _ _ HSF.out (fun _ => ?_)
          (try simp only [Act.put, List.getElem_toArray, List.getElem_cons_zero, List.getElem_cons_succ, List.setIfInBounds_toArray, List.set_cons_zero, List.set_cons_succ])
          refine last_pure (i := 10) (v := .agg #[.slice A8 (x.arrays.length + y.arrays.length) c8, .slice A9 (x.funcs.length + y.funcs.length) c9]) rfl (by kernel_rfl) (by kernel_rfl) (by kernel_rfl) (fun _ _ _ h => h) (Or.inl ⟨by rfl, ?_⟩) ?_
          · intro w'
            go_simp
          (try simp only [Act.put, List.getElem_toArray, List.getElem_cons_zero, List.getElem_cons_succ, List.setIfInBounds_toArray, List.set_cons_zero, List.set_cons_succ])
          have HCX : Hid (cells2 wf wa.heap.size (.slice none 0 0) (.slice none 0 0) ∧ ∀ o, wf.frozen? ⟨wa.heap.size, o, none⟩ = false) := Lib.hid ⟨HC0.out.1.ext HF.out.2.1 (fun hs => by have := HI'.out.lt _ (.inr hs); have := HI'.out.n_le; have := HA.out.2.1.size; omega), frz_ext HC0.out.2 HF.out.2.1 (by simp) (fun hs => by have := HI'.out.lt _ (.inr hs); have := HI'.out.n_le; have := HA.out.2.1.size; omega)⟩
          refine wpAnyLast_ready (rs := [12]) (by kernel_rfl) (by simp) ?_
          refine AllReadyL.cons_last rfl (by decide) (fun K9 hK9 => ?_) AllReadyL.nil
          obtain ⟨⟨g0, g1'⟩, gf⟩ := HCX.out
          have hfin := OneDid.fin (b := wa.heap.size) (m := w.heap.size) HI.out ({ e0 := (Ext.refl _ W3).drew, e1 := HA.out.2.1, e1' := (Ext.refl _ wa).alloc _, e2 := HF.out.2.1, e3 := Ext.refl _ wf, a1 := HA.out.1, at1 := HA.out.2.2, f2 := HF.out.1, at2 := HF.out.2.2.1, old := HF.out.2.2.2, g0 := fun k hk => by have := HA.out.2.1.size; have : W3.drew.heap.size = W3.heap.size := rfl; omega, g1 := fun k _ hk => by omega, g2 := fun k hk _ => by rw [World.size_alloc] at hk; omega }) (by have := HA.out.2.1.size; have : W3.drew.heap.size = W3.heap.size := rfl; omega) HCX.out.1 (by have := HBN.out; omega) (by have := HI.out.n_le; have := HB1S.out; omega)
          have HFIN := Lib.hid hfin
          clear hfin
          go_simp
          refine hK9.out _ _ ?_
          refine wpAnyLast_done (by kernel_rfl) ?_ _
          (try simp only [Act.put, List.getElem_toArray, List.getElem_cons_zero, List.getElem_cons_succ, List.setIfInBounds_toArray, List.set_cons_zero, List.set_cons_succ])
          clear g0 g1' gf hHeld hK9
          rw [show (wf.setCell ⟨wa.heap.size, 0, none⟩ (.slice A8 (x.arrays.length + y.arrays.length) c8)).setCell ⟨wa.heap.size, 1, none⟩ (.slice A9 (x.funcs.length + y.funcs.length) c9) = set2 wf wa.heap.size (.slice A8 (x.arrays.length + y.arrays.length) c8) (.slice A9 (x.funcs.length + y.funcs.length) c9) from rfl]
          generalize set2 wf wa.heap.size (.slice A8 (x.arrays.length + y.arrays.length) c8) (.slice A9 (x.funcs.length + y.funcs.length) c9) = WE at HFIN ⊢
          generalize hbe : (wa.heap.size : Nat) = be at HFIN ⊢
          exact one_end HPQ.out HRR.out HLE.out HFIN.out HZE.out HB3.out HL.out HSZ1.out HSZ2.out HPA1.out HPA2.out (fun hp0 hp1 hq0 hq1 hr0 hr1 hs0 hs1 HC1 HC2 HC3 HC4 HC5 HR0 HSUM HBE l0 l1 l2 l3 => by
            go_wp2_with fail
            go_region_held3 (fun w' => (w'.cell? ⟨w1.heap.size, 0, none⟩ = some (.slice A0 x.arrays.length c0) ∧ w'.cell? ⟨w1.heap.size, 1, none⟩ = some (.slice A1 x.funcs.length c1) ∧ w'.cell? ⟨w2.heap.size, 0, none⟩ = some (.slice B0 y.arrays.length d0) ∧ w'.cell? ⟨w2.heap.size, 1, none⟩ = some (.slice B1 y.funcs.length d1)) ∧ w'.cell? ⟨w3.heap.size, 0, none⟩ = some (.slice C0 z.arrays.length f0) ∧ w'.cell? ⟨w3.heap.size, 1, none⟩ = some (.slice C1 z.funcs.length g1) ∧ w'.cell? ⟨be, 0, none⟩ = some (.slice A8 (x.arrays.length + y.arrays.length) c8) ∧ w'.cell? ⟨be, 1, none⟩ = some (.slice A9 (x.funcs.length + y.funcs.length) c9)) (go_keep)
              (first
                | (go_at_call 18; (with_reducible refine (HC1.out _ ?_).mono ?_); (first | exact hbW | exact HR0.out); rintro en w5 ⟨rfl, hbW⟩; have k0 := (hbW.cell (p := ⟨w1.heap.size, 0, none⟩) l0).trans hp0; have k1 := (hbW.cell (p := ⟨w1.heap.size, 1, none⟩) l0).trans hp1; have k2 := (hbW.cell (p := ⟨w2.heap.size, 0, none⟩) l1).trans hq0; have k3 := (hbW.cell (p := ⟨w2.heap.size, 1, none⟩) l1).trans hq1; have k4 := (hbW.cell (p := ⟨w3.heap.size, 0, none⟩) l2).trans hr0; have k5 := (hbW.cell (p := ⟨w3.heap.size, 1, none⟩) l2).trans hr1; have k6 := (hbW.cell (p := ⟨be, 0, none⟩) l3).trans hs0; have k7 := (hbW.cell (p := ⟨be, 1, none⟩) l3).trans hs1)
                | (go_at_call 26; (with_reducible refine (HC2.out _ ?_).mono ?_); (first | exact hbW | exact HR0.out); rintro en w5 ⟨rfl, hbW⟩; have k0 := (hbW.cell (p := ⟨w1.heap.size, 0, none⟩) l0).trans hp0; have k1 := (hbW.cell (p := ⟨w1.heap.size, 1, none⟩) l0).trans hp1; have k2 := (hbW.cell (p := ⟨w2.heap.size, 0, none⟩) l1).trans hq0; have k3 := (hbW.cell (p := ⟨w2.heap.size, 1, none⟩) l1).trans hq1; have k4 := (hbW.cell (p := ⟨w3.heap.size, 0, none⟩) l2).trans hr0; have k5 := (hbW.cell (p := ⟨w3.heap.size, 1, none⟩) l2).trans hr1; have k6 := (hbW.cell (p := ⟨be, 0, none⟩) l3).trans hs0; have k7 := (hbW.cell (p := ⟨be, 1, none⟩) l3).trans hs1)
                | (go_at_call 26; (with_reducible refine (HC3.out _ ?_).mono ?_); (first | exact hbW | exact HR0.out); rintro en w5 ⟨rfl, hbW⟩; have k0 := (hbW.cell (p := ⟨w1.heap.size, 0, none⟩) l0).trans hp0; have k1 := (hbW.cell (p := ⟨w1.heap.size, 1, none⟩) l0).trans hp1; have k2 := (hbW.cell (p := ⟨w2.heap.size, 0, none⟩) l1).trans hq0; have k3 := (hbW.cell (p := ⟨w2.heap.size, 1, none⟩) l1).trans hq1; have k4 := (hbW.cell (p := ⟨w3.heap.size, 0, none⟩) l2).trans hr0; have k5 := (hbW.cell (p := ⟨w3.heap.size, 1, none⟩) l2).trans hr1; have k6 := (hbW.cell (p := ⟨be, 0, none⟩) l3).trans hs0; have k7 := (hbW.cell (p := ⟨be, 1, none⟩) l3).trans hs1)
                | (go_at_call 26; (with_reducible refine (HC4.out _ ?_).mono ?_); (first | exact hbW | exact HR0.out); rintro en w5 ⟨rfl, hbW⟩; have k0 := (hbW.cell (p := ⟨w1.heap.size, 0, none⟩) l0).trans hp0; have k1 := (hbW.cell (p := ⟨w1.heap.size, 1, none⟩) l0).trans hp1; have k2 := (hbW.cell (p := ⟨w2.heap.size, 0, none⟩) l1).trans hq0; have k3 := (hbW.cell (p := ⟨w2.heap.size, 1, none⟩) l1).trans hq1; have k4 := (hbW.cell (p := ⟨w3.heap.size, 0, none⟩) l2).trans hr0; have k5 := (hbW.cell (p := ⟨w3.heap.size, 1, none⟩) l2).trans hr1; have k6 := (hbW.cell (p := ⟨be, 0, none⟩) l3).trans hs0; have k7 := (hbW.cell (p := ⟨be, 1, none⟩) l3).trans hs1)
                | (go_at_call 17; (with_reducible refine (HC5.out _ ?_).mono ?_); (first | exact hbW | exact HR0.out); rintro en w5 ⟨rfl, hbW⟩; have k0 := (hbW.cell (p := ⟨w1.heap.size, 0, none⟩) l0).trans hp0; have k1 := (hbW.cell (p := ⟨w1.heap.size, 1, none⟩) l0).trans hp1; have k2 := (hbW.cell (p := ⟨w2.heap.size, 0, none⟩) l1).trans hq0; have k3 := (hbW.cell (p := ⟨w2.heap.size, 1, none⟩) l1).trans hq1; have k4 := (hbW.cell (p := ⟨w3.heap.size, 0, none⟩) l2).trans hr0; have k5 := (hbW.cell (p := ⟨w3.heap.size, 1, none⟩) l2).trans hr1; have k6 := (hbW.cell (p := ⟨be, 0, none⟩) l3).trans hs0; have k7 := (hbW.cell (p := ⟨be, 1, none⟩) l3).trans hs1))
            go_wp2_with fail
            go_ret
            exact ⟨rfl, HBE.out.trans (hbW.mono HBE.out.size)⟩)
      · -- the block first
        go_simp
        have HSL : Hid (cells2 (W3.drew.alloc (.cells #[.slice none 0 0, .slice none 0 0] 26)) w1.heap.size (.slice A0 x.arrays.length c0) (.slice A1 x.funcs.length c1) ∧ cells2 (W3.drew.alloc (.cells #[.slice none 0 0, .slice none 0 0] 26)) w2.heap.size (.slice B0 y.arrays.length d0) (.slice B1 y.funcs.length d1)) := Lib.hid ⟨HS0.out.1.ext (S := fun _ => False) ((Ext.refl _ W3.drew).alloc _) id, HS0.out.2.ext (S := fun _ => False) ((Ext.refl _ W3.drew).alloc _) id⟩
        have HC0 : Hid (cells2 (W3.drew.alloc (.cells #[.slice none 0 0, .slice none 0 0] 26)) W3.drew.heap.size (.slice none 0 0) (.slice none 0 0) ∧ ∀ o, (W3.drew.alloc (.cells #[.slice none 0 0, .slice none 0 0] 26)).frozen? ⟨W3.drew.heap.size, o, none⟩ = false) := Lib.hid ⟨cells2.new W3.drew _ _ _, frozen_new W3.drew _ _⟩
        refine hK11.out _ _ HSL.out (fun _ => ?_)
        (try simp only [Act.put, List.getElem_toArray, List.getElem_cons_zero, List.getElem_cons_succ, List.setIfInBounds_toArray, List.set_cons_zero, List.set_cons_succ])
        have HZL : Hid ((W3.drew.alloc (.cells #[.slice none 0 0, .slice none 0 0] 26)).heap.size = W3.heap.size + 1) := Lib.hid (World.size_alloc _ _)
        have HI2 := Lib.hid (HI'.out.moved (w0 := W3.drew.alloc (.cells #[.slice none 0 0, .slice none 0 0] 26)) ((Ext.refl _ W3.drew).alloc _))
        have HBS2 := HBS
        refine wpAnyLast_ready (rs := [4]) (by kernel_rfl) (by simp) ?_
        refine AllReadyL.cons rfl (by decide) (fun K5 hK5 => ?_) AllReadyL.nil
        simp only [List.getElem_toArray, List.getElem_cons_zero, List.getElem_cons_succ]
        rw [if_pos (by rfl)]
        refine append_row_op (W3.drew.alloc (.cells #[.slice none 0 0, .slice none 0 0] 26)) (bs + 1) _ _ 23 73 _ 2 24 rfl Tryd.underlying23 infoArr rfl (by decide) (by decide) (.slice A0 x.arrays.length c0) x.arrays.length (arrCells x.arrays) (by rfl) (by exact HI2.out.own.1) B0 y.arrays.length d0 (arrCells y.arrays) (by rfl) (by exact HI2.out.qa) (by exact arrCells_one _) (by have := HN16.out; omega) (by rw [World.size_alloc]; exact Nat.le_succ_of_le HBS.out) ?_
        intro v1 wa hown1 hx1 hat1 _
        obtain ⟨A8, c8, rfl, _⟩ := (VRow.of_own hown1).slice
        have HA := Lib.hid (And.intro hown1 (And.intro hx1 hat1))
        clear hown1 hx1 hat1
        have HBSA : Hid (bs + 1 ≤ wa.heap.size) := Lib.hid (Nat.le_trans (by rw [World.size_alloc]; exact Nat.le_succ_of_le HBS.out) HA.out.2.1.size)
        have HSA : Hid (cells2 wa w1.heap.size (.slice A0 x.arrays.length c0) (.slice A1 x.funcs.length c1) ∧ cells2 wa w2.heap.size (.slice B0 y.arrays.length d0) (.slice B1 y.funcs.length d1)) := Lib.hid ⟨HSL.out.1.ext HA.out.2.1 (fun hs => by have := HI2.out.lt _ (.inl hs); omega), HSL.out.2.ext HA.out.2.1 (fun hs => by have := HI2.out.lt _ (.inl hs); have := HLE.out.1; omega)⟩
        refine hK5.out _ _ HSA.out (fun _ => ?_)
        (try simp only [Act.put, List.getElem_toArray, List.getElem_cons_zero, List.getElem_cons_succ, List.setIfInBounds_toArray, List.set_cons_zero, List.set_cons_succ])
        refine wpAnyLast_ready (rs := [9]) (by kernel_rfl) (by simp) ?_
        refine AllReadyL.cons rfl (by decide) (fun K7 hK7 => ?_) AllReadyL.nil
        simp only [List.getElem_toArray, List.getElem_cons_zero, List.getElem_cons_succ]
        rw [if_pos (by rfl)]
        have hmid := OneIn.mid HI2.out HA.out.2.1 (Ext.refl _ wa)
        have HMID := Lib.hid hmid
        have hcyo := FnCells.one HI2.out.cy
        refine append_row_op wa (bs + 1) _ _ 24 76 _ 3 64 rfl Tryd.underlying24 infoFn rfl (by decide) (by decide) (.slice A1 x.funcs.length c1) x.funcs.length csx' (by rfl) (by exact HMID.out.1) B1 y.funcs.length d1 csy (by rfl) (by exact HMID.out.2) (by exact hcyo) (by have := HN16.out; omega) (by exact Nat.le_trans HBSA.out (((Ext.refl _ wa) : Ext (fun _ => False) wa _)).size) ?_
        intro v2 wf hown2 hx2 hat2 hold
        obtain ⟨A9, c9, rfl, _⟩ := (VRow.of_own hown2).slice
        have HF := Lib.hid (And.intro hown2 (And.intro hx2 (And.intro hat2 hold)))
        clear hown2 hx2 hat2 hold hmid hcyo
        have HSF : Hid (cells2 wf w1.heap.size (.slice A0 x.arrays.length c0) (.slice A1 x.funcs.length c1) ∧ cells2 wf w2.heap.size (.slice B0 y.arrays.length d0) (.slice B1 y.funcs.length d1)) := Lib.hid ⟨HSA.out.1.ext HF.out.2.1 (fun hs => by have := HI2.out.lt _ (.inr hs); omega), HSA.out.2.ext HF.out.2.1 (fun hs => by have := HI2.out.lt _ (.inr hs); have := HLE.out.1; omega)⟩
        refine hK7.out _ _ HSF.out (fun _ => ?_)
        (try simp only [Act.put, List.getElem_toArray, List.getElem_cons_zero, List.getElem_cons_succ, List.setIfInBounds_toArray, List.set_cons_zero, List.set_cons_succ])
        refine last_pure (i := 10) (v := .agg #[.slice A8 (x.arrays.length + y.arrays.length) c8, .slice A9 (x.funcs.length + y.funcs.length) c9]) rfl (by kernel_rfl) (by kernel_rfl) (by kernel_rfl) (fun _ _ _ h => h) (Or.inl ⟨by rfl, ?_⟩) ?_
        · intro w'
          go_simp
        (try simp only [Act.put, List.getElem_toArray, List.getElem_cons_zero, List.getElem_cons_succ, List.setIfInBounds_toArray, List.set_cons_zero, List.set_cons_succ])
        have hnb : ¬ ((Value.slice A0 x.arrays.length c0).ownBlock = some W3.heap.size ∨ (Value.slice A1 x.funcs.length c1).ownBlock = some W3.heap.size) := fun hs => by have := HI.out.lt _ hs; have := HI.out.n_le; omega
        have HNB := Lib.hid hnb
        have HCX : Hid (cells2 wf W3.heap.size (.slice none 0 0) (.slice none 0 0) ∧ ∀ o, wf.frozen? ⟨W3.heap.size, o, none⟩ = false) := Lib.hid ⟨cells2.ext (HC0.out.1.ext HA.out.2.1 (fun hs => HNB.out (.inl hs))) HF.out.2.1 (fun hs => HNB.out (.inr hs)), frz_ext (frz_ext HC0.out.2 HA.out.2.1 (by rw [HZL.out]; exact Nat.lt_succ_self _) (fun hs => HNB.out (.inl hs))) HF.out.2.1 (by have := HA.out.2.1.size; rw [HZL.out] at this; exact this) (fun hs => HNB.out (.inr hs))⟩
        clear hnb
        refine wpAnyLast_ready (rs := [12]) (by kernel_rfl) (by simp) ?_
        refine AllReadyL.cons_last rfl (by decide) (fun K9 hK9 => ?_) AllReadyL.nil
        obtain ⟨⟨g0, g1'⟩, gf⟩ := HCX.out
        have hfin := OneDid.fin (b := W3.heap.size) (m := w.heap.size) HI.out ({ e0 := ((Ext.refl _ W3).drew).alloc _, e1 := HA.out.2.1, e1' := Ext.refl _ wa, e2 := HF.out.2.1, e3 := Ext.refl _ wf, a1 := HA.out.1, at1 := HA.out.2.2, f2 := HF.out.1, at2 := HF.out.2.2.1, old := HF.out.2.2.2, g0 := fun k hk => by omega, g1 := fun k hk _ => by rw [HZL.out] at hk; omega, g2 := fun k hk _ => by have h8 := HA.out.2.1.size; rw [HZL.out] at h8; omega }) (Nat.le_refl _) HCX.out.1 (by have := HBN.out; omega) (by have := HI.out.n_le; have := HB1S.out; omega)
        have HFIN := Lib.hid hfin
        clear hfin
        go_simp
        refine hK9.out _ _ ?_
        refine wpAnyLast_done (by kernel_rfl) ?_ _
        (try simp only [Act.put, List.getElem_toArray, List.getElem_cons_zero, List.getElem_cons_succ, List.setIfInBounds_toArray, List.set_cons_zero, List.set_cons_succ])
        clear g0 g1' gf hHeld hK9
        rw [show (wf.setCell ⟨W3.heap.size, 0, none⟩ (.slice A8 (x.arrays.length + y.arrays.length) c8)).setCell ⟨W3.heap.size, 1, none⟩ (.slice A9 (x.funcs.length + y.funcs.length) c9) = set2 wf W3.heap.size (.slice A8 (x.arrays.length + y.arrays.length) c8) (.slice A9 (x.funcs.length + y.funcs.length) c9) from rfl]
        generalize set2 wf W3.heap.size (.slice A8 (x.arrays.length + y.arrays.length) c8) (.slice A9 (x.funcs.length + y.funcs.length) c9) = WE at HFIN ⊢
        generalize hbe : (W3.heap.size : Nat) = be at HFIN ⊢
        exact one_end HPQ.out HRR.out HLE.out HFIN.out HZE.out HB3.out HL.out HSZ1.out HSZ2.out HPA1.out HPA2.out (fun hp0 hp1 hq0 hq1 hr0 hr1 hs0 hs1 HC1 HC2 HC3 HC4 HC5 HR0 HSUM HBE l0 l1 l2 l3 => by
          go_wp2_with fail
          go_region_held3 (fun w' => (w'.cell? ⟨w1.heap.size, 0, none⟩ = some (.slice A0 x.arrays.length c0) ∧ w'.cell? ⟨w1.heap.size, 1, none⟩ = some (.slice A1 x.funcs.length c1) ∧ w'.cell? ⟨w2.heap.size, 0, none⟩ = some (.slice B0 y.arrays.length d0) ∧ w'.cell? ⟨w2.heap.size, 1, none⟩ = some (.slice B1 y.funcs.length d1)) ∧ w'.cell? ⟨w3.heap.size, 0, none⟩ = some (.slice C0 z.arrays.length f0) ∧ w'.cell? ⟨w3.heap.size, 1, none⟩ = some (.slice C1 z.funcs.length g1) ∧ w'.cell? ⟨be, 0, none⟩ = some (.slice A8 (x.arrays.length + y.arrays.length) c8) ∧ w'.cell? ⟨be, 1, none⟩ = some (.slice A9 (x.funcs.length + y.funcs.length) c9)) (go_keep)
            (first
              | (go_at_call 18; (with_reducible refine (HC1.out _ ?_).mono ?_); (first | exact hbW | exact HR0.out); rintro en w5 ⟨rfl, hbW⟩; have k0 := (hbW.cell (p := ⟨w1.heap.size, 0, none⟩) l0).trans hp0; have k1 := (hbW.cell (p := ⟨w1.heap.size, 1, none⟩) l0).trans hp1; have k2 := (hbW.cell (p := ⟨w2.heap.size, 0, none⟩) l1).trans hq0; have k3 := (hbW.cell (p := ⟨w2.heap.size, 1, none⟩) l1).trans hq1; have k4 := (hbW.cell (p := ⟨w3.heap.size, 0, none⟩) l2).trans hr0; have k5 := (hbW.cell (p := ⟨w3.heap.size, 1, none⟩) l2).trans hr1; have k6 := (hbW.cell (p := ⟨be, 0, none⟩) l3).trans hs0; have k7 := (hbW.cell (p := ⟨be, 1, none⟩) l3).trans hs1)
              | (go_at_call 26; (with_reducible refine (HC2.out _ ?_).mono ?_); (first | exact hbW | exact HR0.out); rintro en w5 ⟨rfl, hbW⟩; have k0 := (hbW.cell (p := ⟨w1.heap.size, 0, none⟩) l0).trans hp0; have k1 := (hbW.cell (p := ⟨w1.heap.size, 1, none⟩) l0).trans hp1; have k2 := (hbW.cell (p := ⟨w2.heap.size, 0, none⟩) l1).trans hq0; have k3 := (hbW.cell (p := ⟨w2.heap.size, 1, none⟩) l1).trans hq1; have k4 := (hbW.cell (p := ⟨w3.heap.size, 0, none⟩) l2).trans hr0; have k5 := (hbW.cell (p := ⟨w3.heap.size, 1, none⟩) l2).trans hr1; have k6 := (hbW.cell (p := ⟨be, 0, none⟩) l3).trans hs0; have k7 := (hbW.cell (p := ⟨be, 1, none⟩) l3).trans hs1)
              | (go_at_call 26; (with_reducible refine (HC3.out _ ?_).mono ?_); (first | exact hbW | exact HR0.out); rintro en w5 ⟨rfl, hbW⟩; have k0 := (hbW.cell (p := ⟨w1.heap.size, 0, none⟩) l0).trans hp0; have k1 := (hbW.cell (p := ⟨w1.heap.size, 1, none⟩) l0).trans hp1; have k2 := (hbW.cell (p := ⟨w2.heap.size, 0, none⟩) l1).trans hq0; have k3 := (hbW.cell (p := ⟨w2.heap.size, 1, none⟩) l1).trans hq1; have k4 := (hbW.cell (p := ⟨w3.heap.size, 0, none⟩) l2).trans hr0; have k5 := (hbW.cell (p := ⟨w3.heap.size, 1, none⟩) l2).trans hr1; have k6 := (hbW.cell (p := ⟨be, 0, none⟩) l3).trans hs0; have k7 := (hbW.cell (p := ⟨be, 1, none⟩) l3).trans hs1)
              | (go_at_call 26; (with_reducible refine (HC4.out _ ?_).mono ?_); (first | exact hbW | exact HR0.out); rintro en w5 ⟨rfl, hbW⟩; have k0 := (hbW.cell (p := ⟨w1.heap.size, 0, none⟩) l0).trans hp0; have k1 := (hbW.cell (p := ⟨w1.heap.size, 1, none⟩) l0).trans hp1; have k2 := (hbW.cell (p := ⟨w2.heap.size, 0, none⟩) l1).trans hq0; have k3 := (hbW.cell (p := ⟨w2.heap.size, 1, none⟩) l1).trans hq1; have k4 := (hbW.cell (p := ⟨w3.heap.size, 0, none⟩) l2).trans hr0; have k5 := (hbW.cell (p := ⟨w3.heap.size, 1, none⟩) l2).trans hr1; have k6 := (hbW.cell (p := ⟨be, 0, none⟩) l3).trans hs0; have k7 := (hbW.cell (p := ⟨be, 1, none⟩) l3).trans hs1)
              | (go_at_call 17; (with_reducible refine (HC5.out _ ?_).mono ?_); (first | exact hbW | exact HR0.out); rintro en w5 ⟨rfl, hbW⟩; have k0 := (hbW.cell (p := ⟨w1.heap.size, 0, none⟩) l0).trans hp0; have k1 := (hbW.cell (p := ⟨w1.heap.size, 1, none⟩) l0).trans hp1; have k2 := (hbW.cell (p := ⟨w2.heap.size, 0, none⟩) l1).trans hq0; have k3 := (hbW.cell (p := ⟨w2.heap.size, 1, none⟩) l1).trans hq1; have k4 := (hbW.cell (p := ⟨w3.heap.size, 0, none⟩) l2).trans hr0; have k5 := (hbW.cell (p := ⟨w3.heap.size, 1, none⟩) l2).trans hr1; have k6 := (hbW.cell (p := ⟨be, 0, none⟩) l3).trans hs0; have k7 := (hbW.cell (p := ⟨be, 1, none⟩) l3).trans hs1))
          go_wp2_with fail
          go_ret
          exact ⟨rfl, HBE.out.trans (hbW.mono HBE.out.size)⟩)
    · obtain ⟨n, hn⟩ := hone.2 hc
      have HN := Lib.hid hn
      have hxs := HSZ1.out
      have hys := HSZ2.out
      clear hone hn
      go_enter Tryd.func9, Tryd.ntmps9
      go_wp2_with fail
      refine HSH1.out.mono ?_
      rintro en w0 ⟨rfl, rfl⟩
      go_wp2_with fail
      refine HSH2.out.mono ?_
      rintro en w0 ⟨rfl, rfl⟩
      go_wp2_with fail
      refine (parse_val (w := w) HLN1.out HL.out HP1.out).mono ?_
      rintro en w1 ⟨hb1, A0, c0, A1, c1, rfl, _, _⟩
      have HQ1 := Lib.hid (cells2.new w1 (.slice A0 x.arrays.length c0) (.slice A1 x.funcs.length c1) 26)
      have HB1 := Lib.hid (hb1.alloc hb1.size (.cells #[.slice A0 x.arrays.length c0, .slice A1 x.funcs.length c1] 26))
      have HL1 := Lib.hid (lev_below HL.out HB1.out)
      clear hb1
      go_wp2_with fail
      generalize w1.alloc (.cells #[.slice A0 x.arrays.length c0, .slice A1 x.funcs.length c1] 26) = W1 at HB1 HL1 HQ1 ⊢
      refine (parse_val (w := W1) HLN2.out HL1.out HP2.out).mono ?_
      rintro en w2 ⟨hb2, B0, d0, B1, d1, rfl, _, _⟩
      have hbx := hb2.alloc hb2.size (.cells #[.slice B0 y.arrays.length d0, .slice B1 y.funcs.length d1] 26)
      have HQ2 := Lib.hid (cells2_step HQ1.out hbx)
      have HR2 := Lib.hid (cells2.new w2 (.slice B0 y.arrays.length d0) (.slice B1 y.funcs.length d1) 26)
      have HB2 := Lib.hid (HB1.out.trans (hbx.mono HB1.out.size))
      have HL2 := Lib.hid (lev_below HL.out HB2.out)
      clear hb2 hbx
      go_wp2_with fail
      generalize w2.alloc (.cells #[.slice B0 y.arrays.length d0, .slice B1 y.funcs.length d1] 26) = W2 at HB2 HL2 HQ2 HR2 ⊢
      rw [HX.out]
      refine (parse_gen (w := W2) HLL.out HL2.out HN.out).mono ?_
      rintro en w3 ⟨hb3, C0, n0, f0, C1, n1, f1, rfl⟩
      have hbx := hb3.alloc hb3.size (.cells #[.slice C0 n0 f0, .slice C1 n1 f1] 26)
      obtain ⟨p0, p1⟩ := cells2_step HQ2.out hbx
      obtain ⟨q0, q1⟩ := cells2_step HR2.out hbx
      have HB3 := Lib.hid (HB2.out.trans (hbx.mono HB2.out.size))
      have HL3 := Lib.hid (lev_below HL.out HB3.out)
      clear hb3 hbx
      by_cases hca : 16 < x.arrays.length + y.arrays.length
      · have f1 : decide ((16 : Int) < (x.arrays.length : Int) + (y.arrays.length : Int)) = true := by simp; omega
        clear hca hc
        go_wp2_with fail
        refine (alive_calls HL3.out).mono ?_
        rintro en w4 ⟨rfl, hb4⟩
        go_wp2_with fail
        go_ret
        exact ⟨rfl, HB3.out.trans (hb4.mono HB3.out.size)⟩
      · have f1 : decide ((16 : Int) < (x.arrays.length : Int) + (y.arrays.length : Int)) = false := by simp; omega
        have f2 : decide ((40 : Int) < (x.funcs.length : Int) + (y.funcs.length : Int)) = true := by simp; omega
        clear hca hc
        go_wp2_with fail
        refine (alive_calls HL3.out).mono ?_
        rintro en w4 ⟨rfl, hb4⟩
        go_wp2_with fail
        go_ret
        exact ⟨rfl, HB3.out.trans (hb4.mono HB3.out.size)⟩
  · by_cases hk1 : k1 = 0
    · subst hk1
      by_cases hk2 : k2 = 0
      · subst hk2
        have e1 : decide ((20000 : Int) ≤ (s.length : Int) + (t.length : Int)) = true := by simp; omega
        clear hgo hpar
        go_enter Tryd.func9, Tryd.ntmps9
        go_wp2_with fail
        refine HSH1.out.mono ?_
        rintro en w0 ⟨rfl, rfl⟩
        go_wp2_with fail
        refine HSH2.out.mono ?_
        rintro en w0 ⟨rfl, rfl⟩
        go_wp2_with fail
        refine (parse_gen (w := w) HLN1.out HL.out HP1.out).mono ?_
        rintro en w1 ⟨hb1, A0, n0, c0, A1, n1, c1, rfl⟩
        have HB1 := Lib.hid (hb1.alloc hb1.size (.cells #[.slice A0 n0 c0, .slice A1 n1 c1] 26))
        have HL1 := Lib.hid (lev_below HL.out HB1.out)
        clear hb1
        go_wp2_with fail
        generalize w1.alloc (.cells #[.slice A0 n0 c0, .slice A1 n1 c1] 26) = W1 at HB1 HL1 ⊢
        refine (parse_gen (w := W1) HLN2.out HL1.out HP2.out).mono ?_
        rintro en w2 ⟨hb2, B0, m0, d0, B1, m1, d1, rfl⟩
        have HB2 := Lib.hid (HB1.out.trans ((hb2.alloc hb2.size (.cells #[.slice B0 m0 d0, .slice B1 m1 d1] 26)).mono HB1.out.size))
        have HL2 := Lib.hid (lev_below HL.out HB2.out)
        clear hb2
        go_wp2_with fail
        refine (alive_calls HL2.out).mono ?_
        rintro en w3 ⟨rfl, hb3⟩
        go_wp2_with fail
        go_ret
        exact ⟨rfl, HB2.out.trans (hb3.mono HB2.out.size)⟩
      · have e1 : ((k2 : Int) != 0) = true := by rw [bne_iff_ne]; omega
        clear hgo hpar hk2
        go_enter Tryd.func9, Tryd.ntmps9
        go_wp2_with fail
        refine HSH1.out.mono ?_
        rintro en w0 ⟨rfl, rfl⟩
        go_wp2_with fail
        refine HSH2.out.mono ?_
        rintro en w0 ⟨rfl, rfl⟩
        go_wp2_with fail
        refine (parse_gen (w := w) HLN1.out HL.out HP1.out).mono ?_
        rintro en w1 ⟨hb1, A0, n0, c0, A1, n1, c1, rfl⟩
        have HB1 := Lib.hid (hb1.alloc hb1.size (.cells #[.slice A0 n0 c0, .slice A1 n1 c1] 26))
        have HL1 := Lib.hid (lev_below HL.out HB1.out)
        clear hb1
        go_wp2_with fail
        generalize w1.alloc (.cells #[.slice A0 n0 c0, .slice A1 n1 c1] 26) = W1 at HB1 HL1 ⊢
        refine (parse_gen (w := W1) HLN2.out HL1.out HP2.out).mono ?_
        rintro en w2 ⟨hb2, B0, m0, d0, B1, m1, d1, rfl⟩
        have HB2 := Lib.hid (HB1.out.trans ((hb2.alloc hb2.size (.cells #[.slice B0 m0 d0, .slice B1 m1 d1] 26)).mono HB1.out.size))
        have HL2 := Lib.hid (lev_below HL.out HB2.out)
        clear hb2
        go_wp2_with fail
        refine (alive_calls HL2.out).mono ?_
        rintro en w3 ⟨rfl, hb3⟩
        go_wp2_with fail
        go_ret
        exact ⟨rfl, HB2.out.trans (hb3.mono HB2.out.size)⟩
    · have e1 : ((k1 : Int) != 0) = true := by rw [bne_iff_ne]; omega
      clear hgo hpar hk1
      go_enter Tryd.func9, Tryd.ntmps9
      go_wp2_with fail
      refine HSH1.out.mono ?_
      rintro en w0 ⟨rfl, rfl⟩
      go_wp2_with fail
      refine HSH2.out.mono ?_
      rintro en w0 ⟨rfl, rfl⟩
      go_wp2_with fail
      refine (parse_gen (w := w) HLN1.out HL.out HP1.out).mono ?_
      rintro en w1 ⟨hb1, A0, n0, c0, A1, n1, c1, rfl⟩
      have HB1 := Lib.hid (hb1.alloc hb1.size (.cells #[.slice A0 n0 c0, .slice A1 n1 c1] 26))
      have HL1 := Lib.hid (lev_below HL.out HB1.out)
      clear hb1
      go_wp2_with fail
      generalize w1.alloc (.cells #[.slice A0 n0 c0, .slice A1 n1 c1] 26) = W1 at HB1 HL1 ⊢
      refine (parse_gen (w := W1) HLN2.out HL1.out HP2.out).mono ?_
      rintro en w2 ⟨hb2, B0, m0, d0, B1, m1, d1, rfl⟩
      have HB2 := Lib.hid (HB1.out.trans ((hb2.alloc hb2.size (.cells #[.slice B0 m0 d0, .slice B1 m1 d1] 26)).mono HB1.out.size))
      have HL2 := Lib.hid (lev_below HL.out HB2.out)
      clear hb2
      go_wp2_with fail
      refine (alive_calls HL2.out).mono ?_
      rintro en w3 ⟨rfl, hb3⟩
      go_wp2_with fail
      go_ret
      exact ⟨rfl, HB2.out.trans (hb3.mono HB2.out.size)⟩
theorem one_row {w : World} (a : ByteArray) (h : a.size ≤ maxLen) (b : ByteArray) (k : b.size ≤ maxLen) (hlev : LevAt w w.heap.size) : Calls Tryd.prog 9 #[.string a, .string b] w fun en w' => en = .returned (.bool true) ∧ Below w.heap.size w w' := by
  have := one_calls (w := w) a.data.toList b.data.toList (by unfold maxLen at h; have h2 : a.data.toList.length = a.size := rfl; omega) (by unfold maxLen at k; have h2 : b.data.toList.length = b.size := rfl; omega) hlev (fun s x c k hs h => parsed_params hs h)
  rwa [← ba_of a, ← ba_of b] at this
end Go.Proofs.YtdijffojppjmfaaDoor
