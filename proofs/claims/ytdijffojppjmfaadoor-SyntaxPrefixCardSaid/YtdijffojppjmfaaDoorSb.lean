/- The reference's lexer: Has, Words, Signs, Next. -/
import Derived.Test.YtdijffojppjmfaaDoorSa
import Derived.Deep.RegionHeld3
import Derived.IntWalk
set_option linter.unusedVariables false
set_option linter.unusedSimpArgs false
namespace Go.Proofs.YtdijffojppjmfaaDoor
open Go.RowKit Bir Go.BW
theorem rwords_calls (w : World) : Calls Tryd.prog 118 #[] w fun r w' => r = .returned (.slice (some ⟨w.heap.size, 0, none⟩) 13 13) ∧ w' = w.alloc (strsObj words) := by
  go_enter Tryd.func118, Tryd.ntmps118
  go_wp2
  go_ret
  exact ⟨rfl, rfl⟩
theorem rsigns_calls (w : World) : Calls Tryd.prog 119 #[] w fun r w' => r = .returned (.slice (some ⟨w.heap.size, 0, none⟩) 30 30) ∧ w' = w.alloc (strsObj signs) := by
  go_enter Tryd.func119, Tryd.ntmps119
  go_wp2
  go_ret
  exact ⟨rfl, rfl⟩
theorem rhas_calls (row : List Str) (s : Str) (v : Value) (m : Nat) (w : World) (h : StrsAt w m v row) :
    Calls Tryd.prog 60 #[v, .string (ba s)] w fun r w' => r = .returned (.bool (decide (s ∈ row))) ∧ w = w' := by
  obtain ⟨A, c, rfl, hl, h⟩ := h
  have H := Lib.hid h
  generalize hd : decide (s ∈ row) = d
  have HD := Lib.hid hd
  clear h hd
  go_enter Tryd.func60, Tryd.ntmps60
  go_wp2_with fail
  go_loop [5] (fun i => ∃ k : Nat, k ≤ row.length ∧ i = .int .i64 k ∧ Hid (∀ j, j < k → row[j]? ≠ some s)) (fun i => row.length - (intOf i).toNat)
  case atStart => exact ⟨0, Nat.zero_le _, rfl, fun j hj => absurd hj (by omega)⟩
  case round =>
    obtain ⟨k, hk, rfl, hall⟩ := hrel
    by_cases hlt : k < row.length
    · obtain ⟨b, off, rfl, _, hc⟩ := H.out (by intro e; rw [e] at hlt; simp at hlt)
      have hcell := hc k _ (List.getElem?_eq_getElem hlt)
      generalize hx : row[k] = x at hcell
      have HX := Lib.hid hx
      clear hx hc
      by_cases he : x = s
      · subst he
        have e1 : (x == x) = true := beq_self_eq_true x
        have HF : Hid (d = true) := Lib.hid (by rw [← HD.out, decide_eq_true_eq]; exact List.mem_of_getElem? (List.getElem?_eq_some_iff.2 ⟨hlt, HX.out⟩))
        go_wp2_with fail
        go_ret
        exact ⟨by rw [HF.out]; rfl, rfl⟩
      · have e1 : (x == s) = false := beq_eq_false_iff_ne.2 he
        have HE := Lib.hid he
        clear he
        go_wp2_with fail
        refine ⟨⟨k + 1, by omega, by go_num, fun j hj => ?_⟩, by simp [intOf]; omega⟩
        rcases Nat.lt_or_ge j k with h | h
        · exact hall.out j h
        · obtain rfl : j = k := by omega
          rw [List.getElem?_eq_getElem hlt, HX.out]
          intro e
          exact HE.out (Option.some.inj e)
    · have HF : Hid (d = false) := Lib.hid (by
        rw [← HD.out, decide_eq_false_iff_not]
        intro hm
        obtain ⟨j, hj, he⟩ := List.getElem_of_mem hm
        exact hall.out j (by omega) (by rw [List.getElem?_eq_getElem hj, he]))
      go_wp2_with fail
      go_ret
      exact ⟨by rw [HF.out]; rfl, rfl⟩
theorem ba_cut (s : Str) (a b : Nat) : (ba s).extract a b = ba ((s.drop a).take (b - a)) := by
  apply ByteArray.ext
  rw [ByteArray.data_extract]
  simp [ba]
theorem rletter_is {c : UInt8} {b : Bool} (h : letterB c = b) (w : World) : Calls Tryd.prog 116 #[.int .u8 c.toNat] w fun r w' => r = .returned (.bool b) ∧ w = w' := h ▸ rletter_calls c w
theorem rdigit_is {c : UInt8} {b : Bool} (h : digitB c = b) (w : World) : Calls Tryd.prog 117 #[.int .u8 c.toNat] w fun r w' => r = .returned (.bool b) ∧ w = w' := h ▸ rdigit_calls c w
/-- Where a run of a sort of bytes ends. -/
theorem run_end {p : UInt8 → Bool} {s : Str} {k j : Nat} (hk : k ≤ j) (hj : j ≤ s.length) (h : ∀ i, k ≤ i → i < j → ∃ c, s[i]? = some c ∧ p c = true) (hs : ∀ c, s[j]? = some c → p c = false) : ((s.drop k).takeWhile p).length = j - k := by
  refine takeWhile_stop p (s.drop k) (j - k) (fun i hi => ?_) (fun c hc => ?_)
  · obtain ⟨c, h1, h2⟩ := h (k + i) (by omega) (by omega)
    exact ⟨c, by rw [List.getElem?_drop]; exact h1, h2⟩
  · rw [List.getElem?_drop, show k + (j - k) = j from by omega] at hc
    exact hs c hc
theorem run_step {p : UInt8 → Bool} {s : Str} {k j : Nat} {c : UInt8} (h : ∀ i, k ≤ i → i < j → ∃ c, s[i]? = some c ∧ p c = true) (hc : s[j]? = some c) (hp : p c = true) : ∀ i, k ≤ i → i < j + 1 → ∃ c, s[i]? = some c ∧ p c = true := fun i h1 h2 => by
  rcases Nat.lt_or_ge i j with h3 | h3
  · exact h i h1 h3
  · obtain rfl : i = j := by omega
    exact ⟨c, hc, hp⟩
/-- Next's two tokens in memory: the result's, and the one that is made. -/
structure NX (w W : World) (kd : Int) (tx : ByteArray) (k0 : Nat) : Prop where
  below : Below w.heap.size w W
  size : w.heap.size + 2 ≤ W.heap.size
  r : cells3 W w.heap.size (.int .i64 0) (.string ⟨#[]⟩) (.int .i64 0)
  t : cells3 W (w.heap.size + 1) (.int .i64 kd) (.string tx) (.int .i64 k0)
  fr : ∀ o, W.frozen? ⟨w.heap.size, o, none⟩ = false
  ft : ∀ o, W.frozen? ⟨w.heap.size + 1, o, none⟩ = false
section
variable {w W W' : World} {kd kd' : Int} {tx tx' : ByteArray} {k0 : Nat}
theorem NX.start (w : World) (kd : Int) (k0 : Nat) : NX w ((w.alloc zt).alloc (.cells #[.int .i64 kd, .string ⟨#[]⟩, .int .i64 k0] 49)) kd ⟨#[]⟩ k0 := by
  have E : Ext (fun _ => False) (w.alloc zt) ((w.alloc zt).alloc (.cells #[.int .i64 kd, .string ⟨#[]⟩, .int .i64 k0] 49)) := (Ext.refl _ _).alloc _
  have n1 := cells3.new (w.alloc zt) (.int .i64 kd) (.string ⟨#[]⟩) (.int .i64 k0) 49
  have f1 := frozen_new (w.alloc zt) #[.int .i64 kd, .string ⟨#[]⟩, .int .i64 k0] 49
  rw [World.size_alloc] at n1 f1
  exact ⟨((Below.refl _ w).alloc (Nat.le_refl _) _).alloc (by simp) _, by simp, (cells3.new w _ _ _ 49).ext E id, n1, frz_ext (frozen_new w _ 49) E (by simp) id, f1⟩
theorem NX.step (h : NX w W kd tx k0) (hb : Below W.heap.size W W') : NX w W' kd tx k0 := by
  have E := Ext.of_below hb (fun _ => False)
  have hz := h.size
  exact ⟨h.below.trans (hb.mono h.below.size), Nat.le_trans hz hb.size, h.r.ext E id, h.t.ext E id, frz_ext h.fr E (by omega) id, frz_ext h.ft E (by omega) id⟩
theorem NX.kind (h : NX w W kd tx k0) (k : Int) : NX w (W.setCell ⟨w.heap.size + 1, 0, none⟩ (.int .i64 k)) k tx k0 := by
  have E := ext_cell W (w.heap.size + 1) 0 (.int .i64 k)
  have hz := h.size
  obtain ⟨a, b, c⟩ := h.t
  refine ⟨h.below.setCell (p := ⟨w.heap.size + 1, 0, none⟩) (by show w.heap.size ≤ w.heap.size + 1; omega) _, by simp [World.setCell]; omega, h.r.ext E (by omega), ⟨cell_same_set a, ?_, ?_⟩, fun o => by simp [h.fr o], fun o => by simp [h.ft o]⟩
  · rw [World.cell?_setCell_other _ _ _ _ (by simp)]; exact b
  · rw [World.cell?_setCell_other _ _ _ _ (by simp)]; exact c
theorem NX.text (h : NX w W kd tx k0) (x : ByteArray) : NX w (W.setCell ⟨w.heap.size + 1, 1, none⟩ (.string x)) kd x k0 := by
  have E := ext_cell W (w.heap.size + 1) 1 (.string x)
  have hz := h.size
  obtain ⟨a, b, c⟩ := h.t
  refine ⟨h.below.setCell (p := ⟨w.heap.size + 1, 1, none⟩) (by show w.heap.size ≤ w.heap.size + 1; omega) _, by simp [World.setCell]; omega, h.r.ext E (by omega), ⟨?_, ?_, ?_⟩, fun o => by simp [h.fr o], fun o => by simp [h.ft o]⟩
  · rw [World.cell?_setCell_other _ _ _ _ (by simp)]; exact a
  · exact World.cell?_setCell_same' _ _ _ (by rw [b]; rfl)
  · rw [World.cell?_setCell_other _ _ _ _ (by simp)]; exact c
theorem NX.fin (h : NX w W kd tx k0) {tm : Array Value} {b : Bool} (h4 : tm[4]? = some (.pointer (some ⟨w.heap.size, 0, none⟩))) (h5 : tm[5]? = some (.bool b)) (Q : Ending → World → Prop) (hQ : ∀ W', Below w.heap.size w W' → Q (.returned (.tuple #[.agg #[.int .i64 kd, .string tx, .int .i64 k0], .bool b])) W') :
    bodyPost Tryd.prog Tryd.f90 Q .ret { tmps := tm, defers := [] } (set3 W w.heap.size (.int .i64 kd) (.string tx) (.int .i64 k0)) := by
  obtain ⟨q0, q1, q2⟩ := set3_cells (.int .i64 kd) (.string tx) (.int .i64 k0) h.r
  have hB : Below w.heap.size w (set3 W w.heap.size (.int .i64 kd) (.string tx) (.int .i64 k0)) := h.below.trans ((ext_set3 W w.heap.size _ _ _).to_below h.below.size (fun b hb => by omega))
  generalize set3 W w.heap.size (.int .i64 kd) (.string tx) (.int .i64 k0) = W' at *
  exact bodyPost_ret (v := .tuple #[.agg #[.int .i64 kd, .string tx, .int .i64 k0], .bool b]) (by simp [results, Tryd.results90, go_sem, h4, h5, q0, q1, q2]) rfl (hQ W' hB)
end
/-- What Next hands back. -/
def nextV (t : Str) : Nat × Str × Bool := match first t with
  | some (k, x) => (k, x, true)
  | none => (4, [], false)
theorem next_lt {s x : Str} {k : Nat} (h : nextV s = (k, x, true)) : 0 < x.length := by
  unfold nextV at h
  cases hf : first s with
  | none => rw [hf] at h; cases h
  | some p =>
    obtain ⟨k', x'⟩ := p
    rw [hf] at h
    cases h
    exact List.length_pos_iff.2 (first_spec hf).2.1
theorem sign_prefix (t : Str) : t.take ((sign t).getD []).length = (sign t).getD [] := by
  cases h : sign t with
  | none => rfl
  | some x => exact (List.prefix_iff_eq_take.1 (sign_spec h).2).symm
set_option maxRecDepth 100000 in
set_option maxHeartbeats 4000000 in
theorem rnext_calls (s : Str) (k0 : Nat) (hk0 : k0 < s.length) (hs : s.length ≤ 1000000) (w : World) :
    Calls Tryd.prog 90 #[.string (ba s), .int .i64 k0] w fun r w' => r = .returned (.tuple #[.agg #[.int .i64 (nextV (s.drop k0)).1, .string (ba (nextV (s.drop k0)).2.1), .int .i64 k0], .bool (nextV (s.drop k0)).2.2]) ∧ Below w.heap.size w w' := by
  have hb : k0 < (ba s).size := hk0
  have HD : Hid (s.drop k0 = (ba s)[k0]'hb :: s.drop (k0 + 1)) := Lib.hid (drop_at hk0)
  have HFE : Hid (first (s.drop k0) = (if letterB ((ba s)[k0]'hb) then some (if (s.drop k0).takeWhile wordB ∈ words then (2, (s.drop k0).takeWhile wordB) else (1, (s.drop k0).takeWhile wordB)) else if digitB ((ba s)[k0]'hb) then some (3, (s.drop k0).takeWhile digitB) else (sign (s.drop k0)).map fun t => (4, t))) := Lib.hid (by rw [HD.out]; rfl)
  cases hl : letterB ((ba s)[k0]'hb) with
  | true =>
    have HC : Hid (∀ w, Calls Tryd.prog 116 #[.int .u8 ((ba s)[k0]'hb).toNat] w fun r w' => r = .returned (.bool true) ∧ w = w') := Lib.hid fun w => by
      have := rletter_calls ((ba s)[k0]'hb) w
      rwa [hl] at this
    have hl0 := Lib.hid hl
    clear hl
    go_enter Tryd.func90, Tryd.ntmps90
    go_wp2_with fail
    refine (HC.out _).mono ?_
    rintro en w1 ⟨rfl, rfl⟩
    go_wp2_with fail
    go_loop [7] (fun e => ∃ j : Nat, k0 ≤ j ∧ j ≤ s.length ∧ e = .int .i64 j ∧ Hid (∀ i, k0 ≤ i → i < j → ∃ c, s[i]? = some c ∧ wordB c = true)) (fun e => s.length - (intOf e).toNat)
    case atStart => exact ⟨k0, Nat.le_refl _, by omega, rfl, Lib.hid fun i h1 h2 => absurd h1 (by omega)⟩
    case round =>
      obtain ⟨j, hkj, hj, rfl, hall⟩ := hrel
      by_cases hjt : j < s.length
      · have hbj : j < (ba s).size := hjt
        have HG : Hid (s[j]? = some ((ba s)[j]'hbj)) := Lib.hid (List.getElem?_eq_getElem hjt)
        cases hlj : letterB ((ba s)[j]'hbj) with
        | true =>
          have HL := Lib.hid (rletter_is hlj)
          have HS := Lib.hid (run_step hall.out HG.out (p := wordB) (by simp [wordB, hlj]))
          clear hlj
          go_wp2_with fail
          refine (HL.out _).mono ?_
          rintro en w1 ⟨rfl, rfl⟩
          go_wp2_with fail
          exact ⟨⟨j + 1, by omega, by omega, by go_num, HS⟩, by simp [intOf]; omega⟩
        | false =>
          have HL := Lib.hid (rletter_is hlj)
          cases hdj : digitB ((ba s)[j]'hbj) with
          | true =>
            have HL2 := Lib.hid (rdigit_is hdj)
            have HS := Lib.hid (run_step hall.out HG.out (p := wordB) (by simp [wordB, hdj]))
            clear hlj hdj
            go_wp2_with fail
            refine (HL.out _).mono ?_
            rintro en w1 ⟨rfl, rfl⟩
            go_wp2_with fail
            refine (HL2.out _).mono ?_
            rintro en w1 ⟨rfl, rfl⟩
            go_wp2_with fail
            exact ⟨⟨j + 1, by omega, by omega, by go_num, HS⟩, by simp [intOf]; omega⟩
          | false =>
            have HL2 := Lib.hid (rdigit_is hdj)
            have HE := Lib.hid (run_end hkj hj hall.out (p := wordB) (fun c hc => by rw [HG.out] at hc; cases hc; simp [wordB, hlj, hdj]))
            clear hlj hdj
            go_wp2_with fail
            refine (HL.out _).mono ?_
            rintro en w1 ⟨rfl, rfl⟩
            go_wp2_with fail
            refine (HL2.out _).mono ?_
            rintro en w1 ⟨rfl, rfl⟩
            go_wp2_with fail
            have hnx := NX.start w 1 k0
            generalize (w.alloc zt).alloc (.cells #[.int .i64 1, .string ⟨#[]⟩, .int .i64 k0] 49) = W3 at hnx ⊢
            have hz3 := hnx.size
            have HNX := Lib.hid hnx
            clear hnx
            have hx : (ba s).extract k0 j = ba ((s.drop k0).takeWhile wordB) := by rw [ba_cut, ← HE.out, take_takeWhile]
            generalize (s.drop k0).takeWhile wordB = t at HE HFE hx
            have HX := Lib.hid hx
            clear hx
            go_region_held3 (fun w' => True) (exact trivial)
              (first
                | (go_at_call 118; refine (rwords_calls _).mono ?_; rintro en w2 ⟨rfl, rfl⟩)
                | (go_at_call 60; rw [HX.out]; refine (rhas_calls words t _ _ _ ((words_at W3).keep (w1 := (W3.alloc (strsObj words)).drew) (fun _ _ => rfl))).mono ?_; rintro en w2 ⟨rfl, rfl⟩))
            have HN2 := Lib.hid (HNX.out.step (((Below.refl W3.heap.size W3).alloc (Nat.le_refl _) (strsObj words)).drew))
            generalize (W3.alloc (strsObj words)).drew = W4 at HN2 ⊢
            obtain ⟨t0, t1, t2⟩ := HN2.out.t
            obtain ⟨r0, r1, r2⟩ := HN2.out.r
            have fr := HN2.out.fr
            have ft := HN2.out.ft
            cases hm : decide (t ∈ words) with
            | true =>
              have HV : Hid (nextV (s.drop k0) = (2, t, true)) := Lib.hid (by unfold nextV; rw [HFE.out, if_pos hl0.out, if_pos (of_decide_eq_true hm)])
              have hlt2 := next_lt HV.out
              have d1 : decide (k0 < j) = true := by rw [decide_eq_true_eq]; have := HE.out; omega
              clear hm
              go_wp2_with fail
              rw [HX.out]
              exact ((HN2.out.kind 2).text (ba t)).fin rfl rfl _ (fun W' hB => ⟨by rw [HV.out]; rfl, hB⟩)
            | false =>
              have HV : Hid (nextV (s.drop k0) = (1, t, true)) := Lib.hid (by unfold nextV; rw [HFE.out, if_pos hl0.out, if_neg (of_decide_eq_false hm)])
              have hlt2 := next_lt HV.out
              have d1 : decide (k0 < j) = true := by rw [decide_eq_true_eq]; have := HE.out; omega
              clear hm
              go_wp2_with fail
              rw [HX.out]
              exact (HN2.out.text (ba t)).fin rfl rfl _ (fun W' hB => ⟨by rw [HV.out]; rfl, hB⟩)
      · obtain rfl : j = s.length := by omega
        have HE := Lib.hid (run_end hkj hj hall.out (p := wordB) (fun c hc => by rw [List.getElem?_eq_none (Nat.le_refl _)] at hc; cases hc))
        go_wp2_with fail
        have hnx := NX.start w 1 k0
        generalize (w.alloc zt).alloc (.cells #[.int .i64 1, .string ⟨#[]⟩, .int .i64 k0] 49) = W3 at hnx ⊢
        have hz3 := hnx.size
        have HNX := Lib.hid hnx
        clear hnx
        have hx : (ba s).extract k0 s.length = ba ((s.drop k0).takeWhile wordB) := by rw [ba_cut, ← HE.out, take_takeWhile]
        generalize (s.drop k0).takeWhile wordB = t at HE HFE hx
        have HX := Lib.hid hx
        clear hx
        go_region_held3 (fun w' => True) (exact trivial)
          (first
            | (go_at_call 118; refine (rwords_calls _).mono ?_; rintro en w2 ⟨rfl, rfl⟩)
            | (go_at_call 60; rw [HX.out]; refine (rhas_calls words t _ _ _ ((words_at W3).keep (w1 := (W3.alloc (strsObj words)).drew) (fun _ _ => rfl))).mono ?_; rintro en w2 ⟨rfl, rfl⟩))
        have HN2 := Lib.hid (HNX.out.step (((Below.refl W3.heap.size W3).alloc (Nat.le_refl _) (strsObj words)).drew))
        generalize (W3.alloc (strsObj words)).drew = W4 at HN2 ⊢
        obtain ⟨t0, t1, t2⟩ := HN2.out.t
        obtain ⟨r0, r1, r2⟩ := HN2.out.r
        have fr := HN2.out.fr
        have ft := HN2.out.ft
        cases hm : decide (t ∈ words) with
        | true =>
          have HV : Hid (nextV (s.drop k0) = (2, t, true)) := Lib.hid (by unfold nextV; rw [HFE.out, if_pos hl0.out, if_pos (of_decide_eq_true hm)])
          have hlt2 := next_lt HV.out
          have d1 : decide (k0 < s.length) = true := by rw [decide_eq_true_eq]; have := HE.out; omega
          clear hm
          go_wp2_with fail
          rw [HX.out]
          exact ((HN2.out.kind 2).text (ba t)).fin rfl rfl _ (fun W' hB => ⟨by rw [HV.out]; rfl, hB⟩)
        | false =>
          have HV : Hid (nextV (s.drop k0) = (1, t, true)) := Lib.hid (by unfold nextV; rw [HFE.out, if_pos hl0.out, if_neg (of_decide_eq_false hm)])
          have hlt2 := next_lt HV.out
          have d1 : decide (k0 < s.length) = true := by rw [decide_eq_true_eq]; have := HE.out; omega
          clear hm
          go_wp2_with fail
          rw [HX.out]
          exact (HN2.out.text (ba t)).fin rfl rfl _ (fun W' hB => ⟨by rw [HV.out]; rfl, hB⟩)
  | false =>
    have HC : Hid (∀ w, Calls Tryd.prog 116 #[.int .u8 ((ba s)[k0]'hb).toNat] w fun r w' => r = .returned (.bool false) ∧ w = w') := Lib.hid fun w => rletter_is hl w
    have hl0 : Hid (¬ letterB ((ba s)[k0]'hb) = true) := Lib.hid (by rw [hl]; simp)
    clear hl
    cases hd : digitB ((ba s)[k0]'hb) with
    | true =>
      have HC2 : Hid (∀ w, Calls Tryd.prog 117 #[.int .u8 ((ba s)[k0]'hb).toNat] w fun r w' => r = .returned (.bool true) ∧ w = w') := Lib.hid fun w => rdigit_is hd w
      have hd0 := Lib.hid hd
      clear hd
      go_enter Tryd.func90, Tryd.ntmps90
      go_wp2_with fail
      refine (HC.out _).mono ?_
      rintro en w1 ⟨rfl, rfl⟩
      go_wp2_with fail
      refine (HC2.out _).mono ?_
      rintro en w1 ⟨rfl, rfl⟩
      go_wp2_with fail
      go_loop [7] (fun e => ∃ j : Nat, k0 ≤ j ∧ j ≤ s.length ∧ e = .int .i64 j ∧ Hid (∀ i, k0 ≤ i → i < j → ∃ c, s[i]? = some c ∧ digitB c = true)) (fun e => s.length - (intOf e).toNat)
      case atStart => exact ⟨k0, Nat.le_refl _, by omega, rfl, Lib.hid fun i h1 h2 => absurd h1 (by omega)⟩
      case round =>
        obtain ⟨j, hkj, hj, rfl, hall⟩ := hrel
        by_cases hjt : j < s.length
        · have hbj : j < (ba s).size := hjt
          have HG : Hid (s[j]? = some ((ba s)[j]'hbj)) := Lib.hid (List.getElem?_eq_getElem hjt)
          cases hdj : digitB ((ba s)[j]'hbj) with
          | true =>
            have HL := Lib.hid (rdigit_is hdj)
            have HS := Lib.hid (run_step hall.out HG.out (p := digitB) hdj)
            clear hdj
            go_wp2_with fail
            refine (HL.out _).mono ?_
            rintro en w1 ⟨rfl, rfl⟩
            go_wp2_with fail
            exact ⟨⟨j + 1, by omega, by omega, by go_num, HS⟩, by simp [intOf]; omega⟩
          | false =>
            have HL := Lib.hid (rdigit_is hdj)
            have HE := Lib.hid (run_end hkj hj hall.out (p := digitB) (fun c hc => by rw [HG.out] at hc; cases hc; exact hdj))
            clear hdj
            go_wp2_with fail
            refine (HL.out _).mono ?_
            rintro en w1 ⟨rfl, rfl⟩
            have hx : (ba s).extract k0 j = ba ((s.drop k0).takeWhile digitB) := by rw [ba_cut, ← HE.out, take_takeWhile]
            have HV : Hid (nextV (s.drop k0) = (3, (s.drop k0).takeWhile digitB, true)) := Lib.hid (by unfold nextV; rw [HFE.out, if_neg hl0.out, if_pos hd0.out])
            have hlt2 := next_lt HV.out
            have d1 : decide (k0 < j) = true := by rw [decide_eq_true_eq]; have := HE.out; omega
            generalize (s.drop k0).takeWhile digitB = t at HE HFE hx HV hlt2
            have HX := Lib.hid hx
            have hnx := NX.start w 0 k0
            generalize (w.alloc zt).alloc (.cells #[.int .i64 0, .string ⟨#[]⟩, .int .i64 k0] 49) = W4 at hnx ⊢
            have HN2 := Lib.hid hnx
            obtain ⟨t0, t1, t2⟩ := hnx.t
            obtain ⟨r0, r1, r2⟩ := hnx.r
            have fr := hnx.fr
            have ft := hnx.ft
            clear hx hnx
            go_wp2_with fail
            rw [HX.out]
            exact ((HN2.out.kind 3).text (ba t)).fin rfl rfl _ (fun W' hB => ⟨by rw [HV.out]; rfl, hB⟩)
        · obtain rfl : j = s.length := by omega
          have HE := Lib.hid (run_end hkj hj hall.out (p := digitB) (fun c hc => by rw [List.getElem?_eq_none (Nat.le_refl _)] at hc; cases hc))
          have hx : (ba s).extract k0 s.length = ba ((s.drop k0).takeWhile digitB) := by rw [ba_cut, ← HE.out, take_takeWhile]
          have HV : Hid (nextV (s.drop k0) = (3, (s.drop k0).takeWhile digitB, true)) := Lib.hid (by unfold nextV; rw [HFE.out, if_neg hl0.out, if_pos hd0.out])
          have hlt2 := next_lt HV.out
          have d1 : decide (k0 < s.length) = true := by rw [decide_eq_true_eq]; have := HE.out; omega
          generalize (s.drop k0).takeWhile digitB = t at HE HFE hx HV hlt2
          have HX := Lib.hid hx
          have hnx := NX.start w 0 k0
          generalize (w.alloc zt).alloc (.cells #[.int .i64 0, .string ⟨#[]⟩, .int .i64 k0] 49) = W4 at hnx ⊢
          have HN2 := Lib.hid hnx
          obtain ⟨t0, t1, t2⟩ := hnx.t
          obtain ⟨r0, r1, r2⟩ := hnx.r
          have fr := hnx.fr
          have ft := hnx.ft
          clear hx hnx
          go_wp2_with fail
          rw [HX.out]
          exact ((HN2.out.kind 3).text (ba t)).fin rfl rfl _ (fun W' hB => ⟨by rw [HV.out]; rfl, hB⟩)
    | false =>
      have HC2 : Hid (∀ w, Calls Tryd.prog 117 #[.int .u8 ((ba s)[k0]'hb).toNat] w fun r w' => r = .returned (.bool false) ∧ w = w') := Lib.hid fun w => rdigit_is hd w
      have hd0 : Hid (¬ digitB ((ba s)[k0]'hb) = true) := Lib.hid (by rw [hd]; simp)
      clear hd
      go_enter Tryd.func90, Tryd.ntmps90
      go_wp2_with fail
      refine (HC.out _).mono ?_
      rintro en w1 ⟨rfl, rfl⟩
      go_wp2_with fail
      refine (HC2.out _).mono ?_
      rintro en w1 ⟨rfl, rfl⟩
      go_wp2_with fail
      have HV : Hid (nextV (s.drop k0) = (4, (sign (s.drop k0)).getD [], !((sign (s.drop k0)).getD []).isEmpty)) := Lib.hid (by
        unfold nextV
        rw [HFE.out, if_neg hl0.out, if_neg hd0.out]
        cases hsg : sign (s.drop k0) with
        | none => rfl
        | some t =>
          have := (sign_spec hsg).1
          have hne : t ≠ [] := by rintro rfl; exact absurd this (by decide)
          cases t with
          | nil => exact absurd rfl hne
          | cons c r => rfl)
      have hnx0 := NX.start w 4 k0
      generalize (w.alloc zt).alloc (.cells #[.int .i64 4, .string ⟨#[]⟩, .int .i64 k0] 49) = W3 at hnx0 ⊢
      have HN0 := Lib.hid hnx0
      clear hnx0
      go_loopw [7, 8] (fun e k wr => NX w wr 4 ⟨#[]⟩ k0 ∧ ((k = .int .i64 1 ∧ e = .int .i64 k0) ∨ (k = .int .i64 2 ∧ e = .int .i64 (k0 + (if (s.drop k0).take 1 ∈ signs then 1 else 0) : Nat)) ∨ (k = .int .i64 3 ∧ k0 + 2 ≤ s.length ∧ e = .int .i64 (k0 + ((sign (s.drop k0)).getD []).length : Nat)))) (fun _ k _ => 3 - (intOf k).toNat)
      case atStart => exact ⟨HN0.out, .inl ⟨rfl, rfl⟩⟩
      case round =>
        obtain ⟨hnx, (⟨rfl, rfl⟩ | ⟨rfl, rfl⟩ | ⟨rfl, h2, rfl⟩)⟩ := hrel
        · have d1 : decide ((k0 : Int) + 1 ≤ (s.length : Int)) = true := by simp; omega
          have hx : (ba s).extract k0 (k0 + 1) = ba ((s.drop k0).take 1) := by rw [ba_cut, Nat.add_sub_cancel_left]
          have HX := Lib.hid hx
          generalize ht1 : (s.drop k0).take 1 = t1 at HX ⊢
          have HNX := Lib.hid hnx
          have hz := hnx.size
          clear hx hnx ht1
          go_wp2_with fail
          have g1 : IntKind.i64.wrap ((k0 : Int) + 1) = (k0 : Int) + 1 := IntWalk.i64_in _ (by omega)
          have g2 : (0 : Int) ≤ (k0 : Int) + 1 := by omega
          have g3 : ((k0 : Int) + 1).toNat = k0 + 1 := by omega
          have g4 : (k0 : Int) ≤ (k0 : Int) + 1 := by omega
          have g5 : (k0 : Int) + 1 ≤ (s.length : Int) := by omega
          go_region_held3 (fun w' => True) (exact trivial)
            (first
              | (go_at_call 119; refine (rsigns_calls _).mono ?_; rintro en w2 ⟨rfl, rfl⟩)
              | (go_at_call 60; rw [HX.out]; refine (rhas_calls signs t1 _ _ _ ((signs_at wr).keep (w1 := (wr.alloc (strsObj signs)).drew) (fun _ _ => rfl))).mono ?_; rintro en w2 ⟨rfl, rfl⟩))
          have HN2 := Lib.hid (HNX.out.step (((Below.refl wr.heap.size wr).alloc (Nat.le_refl _) (strsObj signs)).drew))
          generalize (wr.alloc (strsObj signs)).drew = W4 at HN2 ⊢
          cases hm : decide (t1 ∈ signs) with
          | true =>
            have hm' : t1 ∈ signs := of_decide_eq_true hm
            clear hm
            go_wp2_with fail
            exact ⟨⟨HN2.out, .inr (.inl ⟨rfl, by rw [if_pos hm']; go_num⟩)⟩, by simp [intOf]⟩
          | false =>
            have hm' : ¬ t1 ∈ signs := of_decide_eq_false hm
            clear hm
            go_wp2_with fail
            exact ⟨⟨HN2.out, .inr (.inl ⟨rfl, by rw [if_neg hm', Nat.add_zero]⟩)⟩, by simp [intOf]⟩
        · by_cases h2 : k0 + 2 ≤ s.length
          · have d1 : decide ((k0 : Int) + 2 ≤ (s.length : Int)) = true := by simp; omega
            have hx : (ba s).extract k0 (k0 + 2) = ba ((s.drop k0).take 2) := by rw [ba_cut, Nat.add_sub_cancel_left]
            have HX := Lib.hid hx
            have hsg : ((sign (s.drop k0)).getD []).length = if (s.drop k0).take 2 ∈ signs then 2 else if (s.drop k0).take 1 ∈ signs then 1 else 0 := by
              have hl2 : 2 ≤ (s.drop k0).length := by rw [List.length_drop]; omega
              unfold sign
              by_cases h3 : (s.drop k0).take 2 ∈ signs
              · rw [if_pos ⟨h3, hl2⟩, if_pos h3]; show ((s.drop k0).take 2).length = 2; rw [List.length_take]; omega
              · rw [if_neg (fun h => h3 h.1), if_neg h3]
                split
                · show ((s.drop k0).take 1).length = 1; rw [List.length_take]; omega
                · rfl
            have HSG := Lib.hid hsg
            generalize ht1 : (s.drop k0).take 2 = t1 at HX HSG ⊢
            generalize hE1 : (if (s.drop k0).take 1 ∈ signs then 1 else 0) = E1 at HSG ⊢
            have hE1' : E1 ≤ 1 := by rw [← hE1]; split <;> omega
            have HNX := Lib.hid hnx
            have hz := hnx.size
            clear hx hnx ht1 hsg hE1
            go_wp2_with fail
            have g1 : IntKind.i64.wrap ((k0 : Int) + 2) = (k0 : Int) + 2 := IntWalk.i64_in _ (by omega)
            have g2 : (0 : Int) ≤ (k0 : Int) + 2 := by omega
            have g3 : ((k0 : Int) + 2).toNat = k0 + 2 := by omega
            have g4 : (k0 : Int) ≤ (k0 : Int) + 2 := by omega
            have g5 : (k0 : Int) + 2 ≤ (s.length : Int) := by omega
            go_region_held3 (fun w' => True) (exact trivial)
              (first
                | (go_at_call 119; refine (rsigns_calls _).mono ?_; rintro en w2 ⟨rfl, rfl⟩)
                | (go_at_call 60; rw [HX.out]; refine (rhas_calls signs t1 _ _ _ ((signs_at wr).keep (w1 := (wr.alloc (strsObj signs)).drew) (fun _ _ => rfl))).mono ?_; rintro en w2 ⟨rfl, rfl⟩))
            have HN2 := Lib.hid (HNX.out.step (((Below.refl wr.heap.size wr).alloc (Nat.le_refl _) (strsObj signs)).drew))
            generalize (wr.alloc (strsObj signs)).drew = W4 at HN2 ⊢
            cases hm : decide (t1 ∈ signs) with
            | true =>
              have hm' : t1 ∈ signs := of_decide_eq_true hm
              clear hm
              go_wp2_with fail
              exact ⟨⟨HN2.out, .inr (.inr ⟨rfl, h2, by rw [HSG.out, if_pos hm']; go_num⟩)⟩, by simp [intOf]⟩
            | false =>
              have hm' : ¬ t1 ∈ signs := of_decide_eq_false hm
              clear hm
              go_wp2_with fail
              exact ⟨⟨HN2.out, .inr (.inr ⟨rfl, h2, by rw [HSG.out, if_neg hm']; rfl⟩)⟩, by simp [intOf]⟩
          · have d0 : decide ((k0 : Int) + 2 ≤ (s.length : Int)) = false := by simp; omega
            have hsg : ((sign (s.drop k0)).getD []).length = if (s.drop k0).take 1 ∈ signs then 1 else 0 := by
              unfold sign
              rw [if_neg (fun h => by have := h.2; rw [List.length_drop] at this; omega)]
              split
              · show ((s.drop k0).take 1).length = 1; rw [List.length_take, List.length_drop]; omega
              · rfl
            obtain ⟨M, hM⟩ : ∃ M, M = k0 + ((sign (s.drop k0)).getD []).length := ⟨_, rfl⟩
            rw [← hsg, ← hM]
            clear hsg
            have hpre := sign_prefix (s.drop k0)
            have hx : (ba s).extract k0 M = ba ((sign (s.drop k0)).getD []) := by rw [ba_cut, hM, Nat.add_sub_cancel_left]; exact congrArg ba hpre
            have hMl : M ≤ s.length := by
              have := congrArg List.length hpre
              rw [List.length_take, List.length_drop] at this
              omega
            have d1 : decide (k0 < M) = !((sign (s.drop k0)).getD []).isEmpty := by
              cases ht : (sign (s.drop k0)).getD [] with
              | nil => rw [hM, ht]; simp
              | cons c r => rw [hM, ht]; simp
            have hkM : k0 ≤ M := by omega
            generalize (sign (s.drop k0)).getD [] = t at HV hx d1 hM hpre
            have HX := Lib.hid hx
            obtain ⟨t0, t1, t2⟩ := hnx.t
            obtain ⟨r0, r1, r2⟩ := hnx.r
            have fr := hnx.fr
            have ft := hnx.ft
            have HNX := Lib.hid hnx
            clear hx hM hpre hnx
            go_wp2_with fail
            rw [HX.out]
            exact (HNX.out.text (ba t)).fin rfl rfl _ (fun W' hB => ⟨by rw [HV.out]; rfl, hB⟩)
        · obtain ⟨M, hM⟩ : ∃ M, M = k0 + ((sign (s.drop k0)).getD []).length := ⟨_, rfl⟩
          rw [← hM]
          have hpre := sign_prefix (s.drop k0)
          have hx : (ba s).extract k0 M = ba ((sign (s.drop k0)).getD []) := by rw [ba_cut, hM, Nat.add_sub_cancel_left]; exact congrArg ba hpre
          have hMl : M ≤ s.length := by
            have := congrArg List.length hpre
            rw [List.length_take, List.length_drop] at this
            omega
          have d1 : decide (k0 < M) = !((sign (s.drop k0)).getD []).isEmpty := by
            cases ht : (sign (s.drop k0)).getD [] with
            | nil => rw [hM, ht]; simp
            | cons c r => rw [hM, ht]; simp
          have hkM : k0 ≤ M := by omega
          generalize (sign (s.drop k0)).getD [] = t at HV hx d1 hM hpre
          have HX := Lib.hid hx
          obtain ⟨t0, t1, t2⟩ := hnx.t
          obtain ⟨r0, r1, r2⟩ := hnx.r
          have fr := hnx.fr
          have ft := hnx.ft
          have HNX := Lib.hid hnx
          clear hx hM hpre hnx
          go_wp2_with fail
          rw [HX.out]
          exact (HNX.out.text (ba t)).fin rfl rfl _ (fun W' hB => ⟨by rw [HV.out]; rfl, hB⟩)
end Go.Proofs.YtdijffojppjmfaaDoor
