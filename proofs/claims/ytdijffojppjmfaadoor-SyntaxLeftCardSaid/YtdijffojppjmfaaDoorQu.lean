/- The law SyntaxLeft, walked. -/
import Derived.Test.YtdijffojppjmfaaDoorQt
set_option linter.unusedVariables false
set_option linter.unusedSimpArgs false
namespace Go.Proofs.YtdijffojppjmfaaDoor
open Go.RowKit Bir Go.BW
abbrev lcells : Array Value := #[.string ⟨#[124, 124]⟩, .string ⟨#[38, 38]⟩, .string ⟨#[124]⟩, .string ⟨#[94]⟩, .string ⟨#[38]⟩, .string ⟨#[61, 61]⟩, .string ⟨#[33, 61]⟩, .string ⟨#[60]⟩, .string ⟨#[60, 61]⟩, .string ⟨#[62]⟩, .string ⟨#[62, 61]⟩, .string ⟨#[60, 60]⟩, .string ⟨#[62, 62]⟩, .string ⟨#[43]⟩, .string ⟨#[45]⟩, .string ⟨#[42]⟩, .string ⟨#[47]⟩, .string ⟨#[37]⟩]
theorem lcells_at {w : World} {i : Nat} (hi : i < 18) (t : TypeId) : (w.alloc (.cells lcells t)).cell? ⟨w.heap.size, i, none⟩ = some (.string (ba (lops[i]'(by simpa [lops] using hi)))) := by
  have e : lcells = (lops.map fun s => Value.string (ba s)).toArray := rfl
  have hl : i < lops.length := by simpa [lops] using hi
  rw [e]
  simp [hl]
theorem ba_app (s t : Str) : ba s ++ ba t = ba (s ++ t) := by apply ByteArray.ext; simp [ba]
theorem below_drewN {n : Nat} {w w1 : World} (h : Below n w w1) (k : Nat) : Below n w (w1.drewN k) := ⟨h.os, h.tape, h.output, h.size, h.block⟩
set_option maxRecDepth 100000 in
set_option maxHeartbeats 2000000 in
theorem left_calls {w : World} (a b : Nat) (ha : a < 256) (hb : b < 256) (hlev : LevAt w w.heap.size) : Calls Tryd.prog 7 #[.int .u8 a, .int .u8 b] w fun en w' => en = .returned (.bool true) ∧ Below w.heap.size w w' := by
  have hi : a % 18 < 18 := Nat.mod_lt _ (by omega)
  have hj : b % 18 < 18 := Nat.mod_lt _ (by omega)
  have c1 := lcells_at (w := w) hi 9
  have c2 := lcells_at (w := w) hj 9
  have HL := Lib.hid hlev
  clear hlev
  go_enter Tryd.func7, Tryd.ntmps7
  go_wp2_with fail
  go_quiet (fail)
  have hW1 : Below w.heap.size w ((w.alloc (.cells lcells 9)).drewN nq) := below_drewN ((Below.refl _ w).alloc (Nat.le_refl _) _) _
  have hf : lops[a % 18]'(by simpa [lops] using hi) ∈ lops := List.getElem_mem _
  have hg : lops[b % 18]'(by simpa [lops] using hj) ∈ lops := List.getElem_mem _
  generalize lops[a % 18]'(by simpa [lops] using hi) = f at *
  generalize lops[b % 18]'(by simpa [lops] using hj) = g at *
  generalize (w.alloc (.cells lcells 9)).drewN nq = W1 at hW1 ⊢
  obtain ⟨hp, hf1, hf2⟩ := left_parse hf hg
  obtain ⟨_, hg1, hg2⟩ := left_parse hg hf
  have HP := Lib.hid hp
  have HW1 := Lib.hid hW1
  have hl2 : ∀ s ∈ lops, s.length ≤ 2 := by decide
  have hfl := hl2 f hf
  have hgl := hl2 g hg
  clear c1 c2 hp hf hg hW1 hl2
  by_cases hfg : level g ≤ level f
  · have hx : leftX f g = .mk 6 0 g [.mk 6 0 f [leftA, leftB], leftC] := if_pos hfg
    rw [hx] at HP
    have e1 : decide (level g ≤ level f) = true := decide_eq_true hfg
    clear hfg hx
    go_wp2_with fail
    rw [show ({ data := #[45, 120, 32] } ++ ba f ++ { data := #[32, 33, 121, 32] } ++ ba g ++ { data := #[32, 45, 32, 122] } : ByteArray) = ba (leftS f g) from by
      show ba [45, 120, 32] ++ ba f ++ ba [32, 33, 121, 32] ++ ba g ++ ba [32, 45, 32, 122] = _
      rw [ba_app, ba_app, ba_app, ba_app]; rfl]
    refine (parse_some (parseExpr_calls (w := W1) (leftS f g) (by unfold leftS; simp; omega) (lev_below HL.out HW1.out)) HP.out).mono ?_
    rintro en w1 ⟨hb1, v, rfl, kv, rfl, hr⟩
    obtain ⟨A1, c1, rfl, _⟩ := hr.slice
    obtain ⟨b1, off, k0, rfl, hbl, ⟨a0, _, a2, _⟩, _⟩ := erow_at hr (k := 0) (by simp [Ex.kids])
    obtain ⟨b', off', k1, hA, _, ⟨e0, _, e2, _⟩, _⟩ := erow_at hr (k := 1) (by simp [Ex.kids])
    injection hA with hA
    injection hA with h1 h2 _
    subst h1 h2
    simp only [Ex.kind, Ex.num, Ex.name, Ex.kids, List.getElem_cons_zero, List.getElem_cons_succ, leftC, List.length_cons, List.length_nil, Nat.zero_add, Nat.reduceAdd, Nat.zero_mul, Nat.add_zero, Nat.one_mul] at a0 a2 e0 e2 ⊢
    have hxx := (Ext.refl (fun _ => False) w1).alloc (.cells #[.int .i64 6, .int .i64 0, .string (ba g), .slice (some ⟨b1, off, none⟩) 2 c1] 36)
    obtain ⟨q0, q1, q2, q3⟩ := cells4.new w1 (.int .i64 6) (.int .i64 0) (.string (ba g)) (.slice (some ⟨b1, off, none⟩) 2 c1) 36
    replace a0 := cell_ext a0 hxx id
    replace a2 := cell_ext a2 hxx id
    replace e0 := cell_ext e0 hxx id
    have HB1 := Lib.hid (HW1.out.trans (hb1.mono HW1.out.size))
    have HLV := Lib.hid (lev_alloc (lev_below (lev_below HL.out HW1.out) hb1) (.cells #[.int .i64 6, .int .i64 0, .string (ba g), .slice (some ⟨b1, off, none⟩) 2 c1] 36))
    clear hb1 hr e2 hxx
    go_wp2_with fail
    refine (level_calls f _ _ HLV.out).mono ?_
    rintro en w2 ⟨rfl, rfl⟩
    go_wp2_with fail
    refine (level_calls g _ _ HLV.out).mono ?_
    rintro en w2 ⟨rfl, rfl⟩
    go_wp2_with fail
    refine (alive_calls HLV.out).mono ?_
    rintro en w2 ⟨rfl, hb2⟩
    go_wp2_with fail
    go_ret
    exact ⟨rfl, HB1.out.trans (((Below.refl _ w1).alloc HB1.out.size _).trans (hb2.mono (by rw [World.size_alloc]; have := HB1.out.size; omega)))⟩
  · have hx : leftX f g = .mk 6 0 f [leftA, .mk 6 0 g [leftB, leftC]] := if_neg hfg
    rw [hx] at HP
    have e1 : decide (level g ≤ level f) = false := decide_eq_false hfg
    clear hfg hx
    go_wp2_with fail
    rw [show ({ data := #[45, 120, 32] } ++ ba f ++ { data := #[32, 33, 121, 32] } ++ ba g ++ { data := #[32, 45, 32, 122] } : ByteArray) = ba (leftS f g) from by
      show ba [45, 120, 32] ++ ba f ++ ba [32, 33, 121, 32] ++ ba g ++ ba [32, 45, 32, 122] = _
      rw [ba_app, ba_app, ba_app, ba_app]; rfl]
    refine (parse_some (parseExpr_calls (w := W1) (leftS f g) (by unfold leftS; simp; omega) (lev_below HL.out HW1.out)) HP.out).mono ?_
    rintro en w1 ⟨hb1, v, rfl, kv, rfl, hr⟩
    obtain ⟨A1, c1, rfl, _⟩ := hr.slice
    obtain ⟨b1, off, k0, rfl, hbl, ⟨a0, _, a2, _⟩, _⟩ := erow_at hr (k := 0) (by simp [Ex.kids])
    obtain ⟨b', off', k1, hA, _, ⟨e0, _, e2, _⟩, _⟩ := erow_at hr (k := 1) (by simp [Ex.kids])
    injection hA with hA
    injection hA with h1 h2 _
    subst h1 h2
    simp only [Ex.kind, Ex.num, Ex.name, Ex.kids, List.getElem_cons_zero, List.getElem_cons_succ, leftA, List.length_cons, List.length_nil, Nat.zero_add, Nat.reduceAdd, Nat.zero_mul, Nat.add_zero, Nat.one_mul] at a0 a2 e0 e2 ⊢
    have hxx := (Ext.refl (fun _ => False) w1).alloc (.cells #[.int .i64 6, .int .i64 0, .string (ba f), .slice (some ⟨b1, off, none⟩) 2 c1] 36)
    obtain ⟨q0, q1, q2, q3⟩ := cells4.new w1 (.int .i64 6) (.int .i64 0) (.string (ba f)) (.slice (some ⟨b1, off, none⟩) 2 c1) 36
    replace a0 := cell_ext a0 hxx id
    replace e2 := cell_ext e2 hxx id
    replace e0 := cell_ext e0 hxx id
    have HB1 := Lib.hid (HW1.out.trans (hb1.mono HW1.out.size))
    have HLV := Lib.hid (lev_alloc (lev_below (lev_below HL.out HW1.out) hb1) (.cells #[.int .i64 6, .int .i64 0, .string (ba f), .slice (some ⟨b1, off, none⟩) 2 c1] 36))
    clear hb1 hr a2 hxx
    go_wp2_with fail
    refine (level_calls f _ _ HLV.out).mono ?_
    rintro en w2 ⟨rfl, rfl⟩
    go_wp2_with fail
    refine (level_calls g _ _ HLV.out).mono ?_
    rintro en w2 ⟨rfl, rfl⟩
    go_wp2_with fail
    refine (alive_calls HLV.out).mono ?_
    rintro en w2 ⟨rfl, hb2⟩
    go_wp2_with fail
    go_ret
    exact ⟨rfl, HB1.out.trans (((Below.refl _ w1).alloc HB1.out.size _).trans (hb2.mono (by rw [World.size_alloc]; have := HB1.out.size; omega)))⟩
theorem left_row {w : World} (a : Nat) (ha : a < 256) (b : Nat) (hb : b < 256) (hlev : LevAt w w.heap.size) : Calls Tryd.prog 7 #[.int .u8 a, .int .u8 b] w fun en w' => en = .returned (.bool true) ∧ Below w.heap.size w w' := left_calls a b ha hb hlev
end Go.Proofs.YtdijffojppjmfaaDoor
