/- slices.Contains at strings; the operators' levels, read off the program's own table. -/
import Derived.Test.YtdijffojppjmfaaDoorPb
import Derived.Deep.LoopGhost
set_option linter.unusedVariables false
namespace Go.Proofs.YtdijffojppjmfaaDoor
open Go.RowKit Bir Go.BW

theorem index_calls (row : List Str) (s : Str) (v : Value) (m : Nat) (w : World) (h : StrsAt w m v row) :
    Calls Tryd.prog 91 #[v, .string (ba s)] w fun r w' => (∃ k : Nat, r = .returned (.int .i64 k) ∧ row[k]? = some s ∧ ∀ j, j < k → row[j]? ≠ some s) ∧ w = w' ∨ (r = .returned (.int .i64 (-1)) ∧ s ∉ row) ∧ w = w' := by
  obtain ⟨A, c, rfl, hl, h⟩ := h
  have H := Lib.hid h
  clear h
  go_enter Tryd.func91, Tryd.ntmps91
  go_wp2_with fail
  go_loop [8] (fun i => ∃ k : Nat, k ≤ row.length ∧ i = .int .i64 k ∧ Hid (∀ j, j < k → row[j]? ≠ some s)) (fun i => row.length - (intOf i).toNat)
  case atStart => exact ⟨0, Nat.zero_le _, rfl, fun j hj => absurd hj (by omega)⟩
  case round =>
    obtain ⟨k, hk, rfl, hall⟩ := hrel
    by_cases hlt : k < row.length
    · obtain ⟨b, off, rfl, _, hc⟩ := H.out (by intro e; rw [e] at hlt; simp at hlt)
      have hcell := hc k _ (List.getElem?_eq_getElem hlt)
      generalize hx : row[k] = x at hcell
      have HX := Lib.hid hx
      clear hx hc
      by_cases he : s = x
      · subst he
        have e1 : (s == s) = true := beq_self_eq_true s
        go_wp2_with fail
        go_ret
        exact .inl ⟨⟨k, rfl, by rw [List.getElem?_eq_getElem hlt, HX.out], hall.out⟩, rfl⟩
      · have e1 : (s == x) = false := beq_eq_false_iff_ne.2 he
        have HE := Lib.hid he
        clear he
        go_wp2_with fail
        go_round
        case rel =>
          refine ⟨k + 1, by omega, by go_num, fun j hj => ?_⟩
          rcases Nat.lt_or_ge j k with h | h
          · exact hall.out j h
          · obtain rfl : j = k := by omega
            rw [List.getElem?_eq_getElem hlt, HX.out]
            intro e
            exact HE.out (Option.some.inj e).symm
        case measure => simp [intOf]; omega
    · go_wp2_with fail
      go_ret
      refine .inr ⟨⟨rfl, fun hm => ?_⟩, rfl⟩
      obtain ⟨j, hj, he⟩ := List.getElem_of_mem hm
      exact hall.out j (by omega) (by rw [List.getElem?_eq_getElem hj, he])
theorem contains_calls (row : List Str) (s : Str) (v : Value) (m : Nat) (w : World) (h : StrsAt w m v row) :
    Calls Tryd.prog 50 #[v, .string (ba s)] w fun r w' => r = .returned (.bool (decide (s ∈ row))) ∧ w = w' := by
  by_cases hm : s ∈ row
  · rw [decide_eq_true hm]
    go_enter Tryd.func50, Tryd.ntmps50
    go_wp2_with fail
    refine (index_calls row s v m w h).mono ?_
    rintro e w' (⟨⟨k, rfl, hk, _⟩, rfl⟩ | ⟨⟨rfl, hn⟩, rfl⟩)
    · clear hk hm
      go_wp2_with fail
      go_ret
      exact ⟨rfl, rfl⟩
    · exact absurd hm hn
  · rw [decide_eq_false hm]
    go_enter Tryd.func50, Tryd.ntmps50
    go_wp2_with fail
    refine (index_calls row s v m w h).mono ?_
    rintro e w' (⟨⟨k, rfl, hk, _⟩, rfl⟩ | ⟨⟨rfl, hn⟩, rfl⟩)
    · exact absurd (List.mem_of_getElem? hk) hm
    · clear hn hm
      go_wp2_with fail
      go_ret
      exact ⟨rfl, rfl⟩

theorem levelIn_spec (s : Str) : ∀ (ls : List (List Str)) (i k : Nat), (∀ j, j < k → ∀ row, ls[j]? = some row → s ∉ row) → (∀ row, ls[k]? = some row → s ∈ row) → (ls[k]? = none → levelIn s ls i = 0) ∧ (∀ row, ls[k]? = some row → levelIn s ls i = i + k)
  | [], i, k, _, _ => ⟨fun _ => rfl, fun row h => by simp at h⟩
  | l :: ls, i, 0, h, hk => ⟨fun h => by simp at h, fun row hr => by rw [levelIn, if_pos (hk l rfl)]; rfl⟩
  | l :: ls, i, k + 1, h, hk => by
    have h0 : s ∉ l := h 0 (by omega) l rfl
    rw [levelIn, if_neg h0]
    have := levelIn_spec s ls (i + 1) k (fun j hj row hr => h (j + 1) (by omega) row (by simpa using hr)) (fun row hr => hk row (by simpa using hr))
    refine ⟨fun hn => this.1 (by simpa using hn), fun row hr => ?_⟩
    rw [this.2 row (by simpa using hr)]
    omega
theorem index_agg0 (f : Nat → Value) (w : World) : (Instr.index 86 (.agg #[f 0, f 1, f 2, f 3, f 4, f 5, f 6, f 7, f 8, f 9]) (.int .i64 0)).run Tryd.prog w = .ok (f 0) w := by kernel_rfl
theorem index_agg1 (f : Nat → Value) (w : World) : (Instr.index 86 (.agg #[f 0, f 1, f 2, f 3, f 4, f 5, f 6, f 7, f 8, f 9]) (.int .i64 1)).run Tryd.prog w = .ok (f 1) w := by kernel_rfl
theorem index_agg2 (f : Nat → Value) (w : World) : (Instr.index 86 (.agg #[f 0, f 1, f 2, f 3, f 4, f 5, f 6, f 7, f 8, f 9]) (.int .i64 2)).run Tryd.prog w = .ok (f 2) w := by kernel_rfl
theorem index_agg3 (f : Nat → Value) (w : World) : (Instr.index 86 (.agg #[f 0, f 1, f 2, f 3, f 4, f 5, f 6, f 7, f 8, f 9]) (.int .i64 3)).run Tryd.prog w = .ok (f 3) w := by kernel_rfl
theorem index_agg4 (f : Nat → Value) (w : World) : (Instr.index 86 (.agg #[f 0, f 1, f 2, f 3, f 4, f 5, f 6, f 7, f 8, f 9]) (.int .i64 4)).run Tryd.prog w = .ok (f 4) w := by kernel_rfl
theorem index_agg5 (f : Nat → Value) (w : World) : (Instr.index 86 (.agg #[f 0, f 1, f 2, f 3, f 4, f 5, f 6, f 7, f 8, f 9]) (.int .i64 5)).run Tryd.prog w = .ok (f 5) w := by kernel_rfl
theorem index_agg6 (f : Nat → Value) (w : World) : (Instr.index 86 (.agg #[f 0, f 1, f 2, f 3, f 4, f 5, f 6, f 7, f 8, f 9]) (.int .i64 6)).run Tryd.prog w = .ok (f 6) w := by kernel_rfl
theorem index_agg7 (f : Nat → Value) (w : World) : (Instr.index 86 (.agg #[f 0, f 1, f 2, f 3, f 4, f 5, f 6, f 7, f 8, f 9]) (.int .i64 7)).run Tryd.prog w = .ok (f 7) w := by kernel_rfl
theorem index_agg8 (f : Nat → Value) (w : World) : (Instr.index 86 (.agg #[f 0, f 1, f 2, f 3, f 4, f 5, f 6, f 7, f 8, f 9]) (.int .i64 8)).run Tryd.prog w = .ok (f 8) w := by kernel_rfl
theorem index_agg9 (f : Nat → Value) (w : World) : (Instr.index 86 (.agg #[f 0, f 1, f 2, f 3, f 4, f 5, f 6, f 7, f 8, f 9]) (.int .i64 9)).run Tryd.prog w = .ok (f 9) w := by kernel_rfl
theorem index_agg (f : Nat → Value) (k : Nat) (hk : k < 10) (w : World) : (Instr.index 86 (.agg #[f 0, f 1, f 2, f 3, f 4, f 5, f 6, f 7, f 8, f 9]) (.int .i64 k)).run Tryd.prog w = .ok (f k) w := by
  have h : k = 0 ∨ k = 1 ∨ k = 2 ∨ k = 3 ∨ k = 4 ∨ k = 5 ∨ k = 6 ∨ k = 7 ∨ k = 8 ∨ k = 9 := by omega
  clear hk
  rcases h with rfl | rfl | rfl | rfl | rfl | rfl | rfl | rfl | rfl | rfl
  · exact index_agg0 f w
  · exact index_agg1 f w
  · exact index_agg2 f w
  · exact index_agg3 f w
  · exact index_agg4 f w
  · exact index_agg5 f w
  · exact index_agg6 f w
  · exact index_agg7 f w
  · exact index_agg8 f w
  · exact index_agg9 f w
theorem level_calls (s : Str) (m : Nat) (w : World) (h : LevAt w m) :
    Calls Tryd.prog 25 #[.string (ba s)] w fun r w' => r = .returned (.int .i64 (level s)) ∧ w = w' := by
  obtain ⟨h0, f, h⟩ := h
  have c0 := (h 0 _ rfl).1
  have c1 := (h 1 _ rfl).1
  have c2 := (h 2 _ rfl).1
  have c3 := (h 3 _ rfl).1
  have c4 := (h 4 _ rfl).1
  have c5 := (h 5 _ rfl).1
  have c6 := (h 6 _ rfl).1
  have c7 := (h 7 _ rfl).1
  have c8 := (h 8 _ rfl).1
  have c9 := (h 9 _ rfl).1
  have H := Lib.hid h
  clear h
  go_enter Tryd.func25, Tryd.ntmps25
  go_wp2_with fail
  clear c0 c1 c2 c3 c4 c5 c6 c7 c8 c9
  go_loop [6] (fun i => ∃ k : Nat, k ≤ 10 ∧ i = .int .i64 k ∧ Hid (∀ j, j < k → ∀ row, levels[j]? = some row → s ∉ row)) (fun i => 10 - (intOf i).toNat)
  case atStart => exact ⟨0, Nat.zero_le _, rfl, fun j hj => absurd hj (by omega)⟩
  case round =>
    obtain ⟨k, hk, rfl, hall⟩ := hrel
    by_cases hlt : k < 10
    · have hg : levels[k]? = some levels[k] := List.getElem?_eq_getElem hlt
      have hi := fun w => index_agg f k hlt w
      have hst := (H.out k _ hg).2
      generalize hx : levels[k]'hlt = row at hst hg
      have HG := Lib.hid hg
      clear hg hx
      by_cases hm : s ∈ row
      · have HC : Hid (∀ w', w' = w → Calls Tryd.prog 50 #[f k, .string (ba s)] w' fun r w' => r = .returned (.bool true) ∧ w = w') := fun w' e => by
          subst e
          have := contains_calls row s _ m _ hst
          rwa [decide_eq_true hm] at this
        have HM := Lib.hid hm
        clear hst hm
        go_wp2_with fail
        refine (HC.out _ rfl).mono ?_
        rintro en w1 ⟨rfl, rfl⟩
        go_wp2_with fail
        go_ret
        refine ⟨?_, rfl⟩
        have := (levelIn_spec s levels 1 k hall.out (fun row' hr => by rw [HG.out] at hr; cases hr; exact HM.out)).2 row HG.out
        rw [show level s = 1 + k from this]
        exact congrArg (fun q : Int => Ending.returned (.int .i64 q)) (by push_cast; rfl)
      · have HC : Hid (∀ w', w' = w → Calls Tryd.prog 50 #[f k, .string (ba s)] w' fun r w' => r = .returned (.bool false) ∧ w = w') := fun w' e => by
          subst e
          have := contains_calls row s _ m _ hst
          rwa [decide_eq_false hm] at this
        have HM := Lib.hid hm
        clear hst hm
        go_wp2_with fail
        refine (HC.out _ rfl).mono ?_
        rintro en w1 ⟨rfl, rfl⟩
        go_wp2_with fail
        go_round
        case rel =>
          refine ⟨k + 1, by omega, by go_num, fun j hj row' hr => ?_⟩
          rcases Nat.lt_or_ge j k with h | h
          · exact hall.out j h row' hr
          · obtain rfl : j = k := by omega
            rw [HG.out] at hr
            cases hr
            exact HM.out
        case measure => simp [intOf]; omega
    · go_wp2_with fail
      go_ret
      refine ⟨?_, rfl⟩
      have hn : levels[k]? = none := List.getElem?_eq_none (by have : levels.length = 10 := rfl; omega)
      have := (levelIn_spec s levels 1 k hall.out (fun row hr => by rw [hn] at hr; cases hr)).1 hn
      rw [show level s = 0 from this]
      rfl
end Go.Proofs.YtdijffojppjmfaaDoor
