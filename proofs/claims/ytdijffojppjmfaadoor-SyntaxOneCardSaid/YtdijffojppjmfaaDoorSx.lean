/- The reference's lexer: bytes, lists of strings, Skip. The reference's lexer: Has, Words, Signs, Next. The reference's lexer: All, Lex, Short. -/
import Derived.Test.YtdijffojppjmfaaDoorQj
import Derived.Deep.RegionHeld3
import Derived.IntWalk
set_option linter.unusedVariables false
set_option linter.unusedSimpArgs false
namespace Go.Proofs.YtdijffojppjmfaaDoor
open Go.RowKit Bir Go.BW
theorem rletter_calls (c : UInt8) (w : World) :
    Calls Tryd.prog 116 #[.int .u8 c.toNat] w fun r w' => r = .returned (.bool (letterB c)) ∧ w = w' := by
  have hc := c.toNat_lt
  unfold letterB
  generalize c.toNat = n at *
  by_cases h1 : 97 ≤ n
  · have e1 : decide ((97 : Int) ≤ (n : Int)) = true := by simp; omega
    by_cases h2 : n ≤ 122
    · have e2 : decide ((n : Int) ≤ 122) = true := by simp; omega
      have e3 : decide (97 ≤ n ∧ n ≤ 122 ∨ 65 ≤ n ∧ n ≤ 90 ∨ n = 95) = true := by simp; omega
      rw [e3]
      clear e3 h1 h2
      go_enter Tryd.func116, Tryd.ntmps116
      go_wp2
      go_ret
      exact ⟨rfl, rfl⟩
    · have e2 : decide ((n : Int) ≤ 122) = false := by simp; omega
      have e3 : decide (97 ≤ n ∧ n ≤ 122 ∨ 65 ≤ n ∧ n ≤ 90 ∨ n = 95) = false := by simp; omega
      have e4 : decide ((65 : Int) ≤ (n : Int)) = true := by simp; omega
      have e5 : decide ((n : Int) ≤ 90) = false := by simp; omega
      have e6 : ((n : Int) == 95) = false := beq_eq_false_iff_ne.2 (by omega)
      rw [e3]
      clear e3 h1 h2
      go_enter Tryd.func116, Tryd.ntmps116
      go_wp2
      go_ret
      exact ⟨rfl, rfl⟩
  · have e1 : decide ((97 : Int) ≤ (n : Int)) = false := by simp; omega
    by_cases h2 : 65 ≤ n
    · have e4 : decide ((65 : Int) ≤ (n : Int)) = true := by simp; omega
      by_cases h3 : n ≤ 90
      · have e5 : decide ((n : Int) ≤ 90) = true := by simp; omega
        have e3 : decide (97 ≤ n ∧ n ≤ 122 ∨ 65 ≤ n ∧ n ≤ 90 ∨ n = 95) = true := by simp; omega
        rw [e3]
        clear e3 h1 h2 h3
        go_enter Tryd.func116, Tryd.ntmps116
        go_wp2
        go_ret
        exact ⟨rfl, rfl⟩
      · have e5 : decide ((n : Int) ≤ 90) = false := by simp; omega
        have e3 : decide (97 ≤ n ∧ n ≤ 122 ∨ 65 ≤ n ∧ n ≤ 90 ∨ n = 95) = ((n : Int) == 95) := by rw [Bool.eq_iff_iff]; simp; omega
        rw [e3]
        clear e3 h1 h2 h3
        go_enter Tryd.func116, Tryd.ntmps116
        go_wp2
        go_ret
        exact ⟨rfl, rfl⟩
    · have e4 : decide ((65 : Int) ≤ (n : Int)) = false := by simp; omega
      have e3 : decide (97 ≤ n ∧ n ≤ 122 ∨ 65 ≤ n ∧ n ≤ 90 ∨ n = 95) = false := by simp; omega
      have e6 : ((n : Int) == 95) = false := beq_eq_false_iff_ne.2 (by omega)
      rw [e3]
      clear e3 h1 h2
      go_enter Tryd.func116, Tryd.ntmps116
      go_wp2
      go_ret
      exact ⟨rfl, rfl⟩
theorem rdigit_calls (c : UInt8) (w : World) :
    Calls Tryd.prog 117 #[.int .u8 c.toNat] w fun r w' => r = .returned (.bool (digitB c)) ∧ w = w' := by
  have hc := c.toNat_lt
  unfold digitB
  generalize c.toNat = n at *
  by_cases h1 : 48 ≤ n
  · have e1 : decide ((48 : Int) ≤ (n : Int)) = true := by simp; omega
    have e3 : decide (48 ≤ n ∧ n ≤ 57) = decide ((n : Int) ≤ 57) := by rw [Bool.eq_iff_iff]; simp; omega
    rw [e3]
    clear e3 h1
    go_enter Tryd.func117, Tryd.ntmps117
    go_wp2
    go_ret
    exact ⟨rfl, rfl⟩
  · have e1 : decide ((48 : Int) ≤ (n : Int)) = false := by simp; omega
    have e3 : decide (48 ≤ n ∧ n ≤ 57) = false := by simp; omega
    rw [e3]
    clear e3 h1
    go_enter Tryd.func117, Tryd.ntmps117
    go_wp2
    go_ret
    exact ⟨rfl, rfl⟩
theorem rblank_calls (c : UInt8) (w : World) :
    Calls Tryd.prog 115 #[.int .u8 c.toNat] w fun r w' => r = .returned (.bool (blankB c)) ∧ w = w' := by
  have hb : blankB c = decide (c.toNat = 32 ∨ c.toNat = 9 ∨ c.toNat = 10 ∨ c.toNat = 13) := by
    unfold blankB
    rw [Bool.eq_iff_iff]
    simp only [Bool.or_eq_true, beq_iff_eq, decide_eq_true_eq, ← UInt8.toNat_inj]
    simp
    omega
  rw [hb]
  clear hb
  generalize c.toNat = n
  by_cases h1 : n = 32
  · have e1 : ((n : Int) == 32) = true := by simp [h1]
    have e0 : decide (n = 32 ∨ n = 9 ∨ n = 10 ∨ n = 13) = true := by simp [h1]
    rw [e0]
    clear e0 h1
    go_enter Tryd.func115, Tryd.ntmps115
    go_wp2
    go_ret
    exact ⟨rfl, rfl⟩
  · have e1 : ((n : Int) == 32) = false := beq_eq_false_iff_ne.2 (by omega)
    by_cases h2 : n = 9
    · have e2 : ((n : Int) == 9) = true := by simp [h2]
      have e0 : decide (n = 32 ∨ n = 9 ∨ n = 10 ∨ n = 13) = true := by simp [h2]
      rw [e0]
      clear e0 h1 h2
      go_enter Tryd.func115, Tryd.ntmps115
      go_wp2
      go_ret
      exact ⟨rfl, rfl⟩
    · have e2 : ((n : Int) == 9) = false := beq_eq_false_iff_ne.2 (by omega)
      by_cases h3 : n = 10
      · have e3 : ((n : Int) == 10) = true := by simp [h3]
        have e0 : decide (n = 32 ∨ n = 9 ∨ n = 10 ∨ n = 13) = true := by simp [h3]
        rw [e0]
        clear e0 h1 h2 h3
        go_enter Tryd.func115, Tryd.ntmps115
        go_wp2
        go_ret
        exact ⟨rfl, rfl⟩
      · have e3 : ((n : Int) == 10) = false := beq_eq_false_iff_ne.2 (by omega)
        have e0 : decide (n = 32 ∨ n = 9 ∨ n = 10 ∨ n = 13) = ((n : Int) == 13) := by rw [Bool.eq_iff_iff]; simp; omega
        rw [e0]
        clear e0 h1 h2 h3
        go_enter Tryd.func115, Tryd.ntmps115
        go_wp2
        go_ret
        exact ⟨rfl, rfl⟩
theorem u8_eq (c : UInt8) (n : Nat) (hn : n < 256) : ((c.toNat : Int) == (n : Int)) = (c == UInt8.ofNat n) := by
  rw [Bool.eq_iff_iff, beq_iff_eq, beq_iff_eq, ← UInt8.toNat_inj]
  simp [UInt8.toNat_ofNat_of_lt' (show n < UInt8.size from hn)]
  omega
theorem u8_ne {c d : UInt8} (h : ¬ c = d) : ((c.toNat : Int) == (d.toNat : Int)) = false := by
  rw [beq_eq_false_iff_ne]
  intro e
  exact h (UInt8.toNat_inj.1 (by omega))
theorem u8_bne {c d : UInt8} (h : ¬ c = d) : ((c.toNat : Int) != (d.toNat : Int)) = true := by
  rw [bne_iff_ne]
  intro e
  exact h (UInt8.toNat_inj.1 (by omega))
theorem drop_at {s : Str} {k : Nat} (h : k < s.length) : s.drop k = s[k] :: s.drop (k + 1) := List.drop_eq_getElem_cons h
/-- Skip, from an offset on. -/
def skipAt (s : Str) (k : Nat) : Nat := s.length - (skip false (s.drop k)).length
set_option maxRecDepth 100000 in
set_option maxHeartbeats 2000000 in
theorem rskip_calls (s : Str) (k0 : Nat) (hk0 : k0 ≤ s.length) (hs : s.length ≤ 1000000) (w : World) :
    Calls Tryd.prog 89 #[.string (ba s), .int .i64 k0] w fun r w' => r = .returned (.int .i64 (skipAt s k0)) ∧ w = w' := by
  unfold skipAt
  generalize hR : skip false (s.drop k0) = R
  have HR := Lib.hid hR
  clear hR
  go_enter Tryd.func89, Tryd.ntmps89
  go_wp2_with fail
  go_loop [1] (fun a => ∃ k : Nat, k ≤ s.length ∧ a = .int .i64 k ∧ Hid (skip false (s.drop k) = R)) (fun a => s.length - (intOf a).toNat)
  case atStart => exact ⟨k0, hk0, rfl, HR⟩
  case round =>
    obtain ⟨k, hk, rfl, hin⟩ := hrel
    clear HR
    by_cases hlt : k < s.length
    · have hb : k < (ba s).size := hlt
      have HG : Hid ((ba s)[k]'hb = s[k]) := Lib.hid rfl
      have HD : Hid (s.drop k = (ba s)[k]'hb :: s.drop (k + 1)) := Lib.hid (drop_at hlt)
      cases hbl : blankB ((ba s)[k]'hb) with
      | true =>
        have HC : Hid (∀ w, Calls Tryd.prog 115 #[.int .u8 ((ba s)[k]'hb).toNat] w fun r w' => r = .returned (.bool true) ∧ w = w') := Lib.hid fun w => by
          have := rblank_calls ((ba s)[k]'hb) w
          rwa [hbl] at this
        have HN : Hid (skip false (s.drop (k + 1)) = R) := Lib.hid (by rw [← hin.out, HD.out, show skip false ((ba s)[k]'hb :: s.drop (k + 1)) = _ from rfl, skip, if_pos hbl])
        clear hbl
        go_wp2_with fail
        refine (HC.out _).mono ?_
        rintro en w1 ⟨rfl, rfl⟩
        go_wp2_with fail
        exact ⟨⟨k + 1, by omega, by go_num, HN⟩, by simp [intOf]; omega⟩
      | false =>
        have HC : Hid (∀ w, Calls Tryd.prog 115 #[.int .u8 ((ba s)[k]'hb).toNat] w fun r w' => r = .returned (.bool false) ∧ w = w') := Lib.hid fun w => by
          have := rblank_calls ((ba s)[k]'hb) w
          rwa [hbl] at this
        by_cases hrem : ((ba s)[k]'hb) = 47 ∧ ∃ h1 : k + 1 < (ba s).size, ((ba s)[k + 1]'h1) = 47
        · obtain ⟨h47, hb1, h48⟩ := hrem
          have h1 : k + 1 < s.length := hb1
          have e1 : ((((ba s)[k]'hb).toNat : Int) == 47) = true := by rw [h47]; rfl
          have e2 : ((((ba s)[k + 1]'hb1).toNat : Int) == 47) = true := by rw [h48]; rfl
          have d1 : decide ((k : Int) + 1 < (s.length : Int)) = true := by simp; omega
          have H47 := Lib.hid h47
          have HN : Hid (skip true (s.drop k) = R) := Lib.hid (by
            have h2 : s.drop (k + 1) = (ba s)[k + 1]'hb1 :: s.drop (k + 2) := drop_at h1
            rw [← hin.out, HD.out, h2, h47, h48]
            exact (skip_remark _).symm)
          clear hbl h47 h48
          go_wp2_with fail
          refine (HC.out _).mono ?_
          rintro en w1 ⟨rfl, rfl⟩
          go_wp2_with fail
          go_loop [1] (fun a => ∃ j : Nat, k ≤ j ∧ j ≤ s.length ∧ a = .int .i64 j ∧ Hid (skip true (s.drop j) = R)) (fun a => s.length - (intOf a).toNat)
          case atStart => exact ⟨k, Nat.le_refl _, hk, rfl, HN⟩
          case round =>
            obtain ⟨j, hkj, hj, rfl, hjn⟩ := hrel
            by_cases hjt : j < s.length
            · have hbj : j < (ba s).size := hjt
              have HDj : Hid (s.drop j = (ba s)[j]'hbj :: s.drop (j + 1)) := Lib.hid (drop_at hjt)
              by_cases h10 : ((ba s)[j]'hbj) = 10
              · have e3 : ((((ba s)[j]'hbj).toNat : Int) != 10) = false := by rw [h10]; rfl
                have hne : k < j := by
                  rcases Nat.lt_or_ge k j with h | h
                  · exact h
                  · obtain rfl : k = j := by omega
                    rw [H47.out] at h10
                    cases h10
                have HM : Hid (skip false (s.drop j) = R) := Lib.hid (by rw [← hjn.out, HDj.out, h10]; rfl)
                clear h10
                go_wp2_with fail
                exact ⟨⟨j, hj, rfl, HM⟩, by simp [intOf]; omega⟩
              · have e3 : ((((ba s)[j]'hbj).toNat : Int) != 10) = true := u8_bne (d := 10) h10
                have HM : Hid (skip true (s.drop (j + 1)) = R) := Lib.hid (by rw [← hjn.out, HDj.out, show skip true ((ba s)[j]'hbj :: s.drop (j + 1)) = _ from rfl, skip, if_neg h10])
                clear h10
                go_wp2_with fail
                exact ⟨⟨j + 1, by omega, by omega, by go_num, HM⟩, by simp [intOf]; omega⟩
            · obtain rfl : j = s.length := by omega
              have HM : Hid (skip false (s.drop s.length) = R) := Lib.hid (by have := hjn.out; rw [List.drop_length] at this ⊢; exact this)
              go_wp2_with fail
              exact ⟨⟨s.length, Nat.le_refl _, rfl, HM⟩, by simp [intOf]; omega⟩
        · have HF : Hid (s.length - R.length = k) := Lib.hid (by
            have : R = s.drop k := by
              rw [← hin.out, HD.out, show skip false ((ba s)[k]'hb :: s.drop (k + 1)) = _ from rfl, skip, if_neg (by rw [hbl]; simp), if_neg]
              rintro ⟨h1, h2⟩
              refine hrem ⟨h1, ?_⟩
              have hl : k + 1 < s.length := by
                rcases Nat.lt_or_ge (k + 1) s.length with h | h
                · exact h
                · rw [List.drop_eq_nil_of_le h] at h2; cases h2
              refine ⟨hl, ?_⟩
              rw [drop_at hl] at h2
              exact Option.some.inj h2
            rw [this, List.length_drop]
            omega)
          clear hbl
          by_cases h47 : ((ba s)[k]'hb) = 47
          · have e1 : ((((ba s)[k]'hb).toNat : Int) == 47) = true := by rw [h47]; rfl
            by_cases h1 : k + 1 < s.length
            · have hb1 : k + 1 < (ba s).size := h1
              have h48 : ¬ ((ba s)[k + 1]'hb1) = 47 := fun h => hrem ⟨h47, hb1, h⟩
              have e2 : ((((ba s)[k + 1]'hb1).toNat : Int) == 47) = false := u8_ne (d := 47) h48
              have d1 : decide ((k : Int) + 1 < (s.length : Int)) = true := by simp; omega
              clear hrem h47 h48
              go_wp2_with fail
              refine (HC.out _).mono ?_
              rintro en w1 ⟨rfl, rfl⟩
              go_wp2_with fail
              go_ret
              exact ⟨congrArg (fun n : Nat => Ending.returned (.int .i64 n)) HF.out.symm, rfl⟩
            · have d1 : decide ((k : Int) + 1 < (s.length : Int)) = false := by simp; omega
              clear hrem h47
              go_wp2_with fail
              refine (HC.out _).mono ?_
              rintro en w1 ⟨rfl, rfl⟩
              go_wp2_with fail
              go_ret
              exact ⟨congrArg (fun n : Nat => Ending.returned (.int .i64 n)) HF.out.symm, rfl⟩
          · have e1 : ((((ba s)[k]'hb).toNat : Int) == 47) = false := u8_ne (d := 47) h47
            clear hrem h47
            go_wp2_with fail
            refine (HC.out _).mono ?_
            rintro en w1 ⟨rfl, rfl⟩
            go_wp2_with fail
            go_ret
            exact ⟨congrArg (fun n : Nat => Ending.returned (.int .i64 n)) HF.out.symm, rfl⟩
    · obtain rfl : k = s.length := by omega
      have HF : Hid (s.length - R.length = s.length) := Lib.hid (by rw [← hin.out, List.drop_length]; rfl)
      go_wp2_with fail
      go_ret
      exact ⟨congrArg (fun n : Nat => Ending.returned (.int .i64 n)) HF.out.symm, rfl⟩
end Go.Proofs.YtdijffojppjmfaaDoor
set_option linter.unusedVariables false
set_option linter.unusedSimpArgs false
namespace Go.Proofs.YtdijffojppjmfaaDoor
open Go.RowKit Bir Go.BW
theorem rwords_calls (w : World) : Calls Tryd.prog 118 #[] w fun r w' => r = .returned (.slice (some ⟨w.heap.size, 0, none⟩) 13 13) ∧ w' = w.alloc (strsObj words) := by
  go_enter Tryd.func118, Tryd.ntmps118
  go_wp2
  go_ret
  exact ⟨rfl, rfl⟩
theorem rsigns_calls (w : World) : Calls Tryd.prog 119 #[] w fun r w' => r = .returned (.slice (some ⟨w.heap.size, 0, none⟩) 30 30) ∧ w' = w.alloc (strsObj signs) := by
  go_enter Tryd.func119, Tryd.ntmps119
  go_wp2
  go_ret
  exact ⟨rfl, rfl⟩
theorem rhas_calls (row : List Str) (s : Str) (v : Value) (m : Nat) (w : World) (h : StrsAt w m v row) :
    Calls Tryd.prog 60 #[v, .string (ba s)] w fun r w' => r = .returned (.bool (decide (s ∈ row))) ∧ w = w' := by
  obtain ⟨A, c, rfl, hl, h⟩ := h
  have H := Lib.hid h
  generalize hd : decide (s ∈ row) = d
  have HD := Lib.hid hd
  clear h hd
  go_enter Tryd.func60, Tryd.ntmps60
  go_wp2_with fail
  go_loop [5] (fun i => ∃ k : Nat, k ≤ row.length ∧ i = .int .i64 k ∧ Hid (∀ j, j < k → row[j]? ≠ some s)) (fun i => row.length - (intOf i).toNat)
  case atStart => exact ⟨0, Nat.zero_le _, rfl, fun j hj => absurd hj (by omega)⟩
  case round =>
    obtain ⟨k, hk, rfl, hall⟩ := hrel
    by_cases hlt : k < row.length
    · obtain ⟨b, off, rfl, _, hc⟩ := H.out (by intro e; rw [e] at hlt; simp at hlt)
      have hcell := hc k _ (List.getElem?_eq_getElem hlt)
      generalize hx : row[k] = x at hcell
      have HX := Lib.hid hx
      clear hx hc
      by_cases he : x = s
      · subst he
        have e1 : (x == x) = true := beq_self_eq_true x
        have HF : Hid (d = true) := Lib.hid (by rw [← HD.out, decide_eq_true_eq]; exact List.mem_of_getElem? (List.getElem?_eq_some_iff.2 ⟨hlt, HX.out⟩))
        go_wp2_with fail
        go_ret
        exact ⟨by rw [HF.out]; rfl, rfl⟩
      · have e1 : (x == s) = false := beq_eq_false_iff_ne.2 he
        have HE := Lib.hid he
        clear he
        go_wp2_with fail
        refine ⟨⟨k + 1, by omega, by go_num, fun j hj => ?_⟩, by simp [intOf]; omega⟩
        rcases Nat.lt_or_ge j k with h | h
        · exact hall.out j h
        · obtain rfl : j = k := by omega
          rw [List.getElem?_eq_getElem hlt, HX.out]
          intro e
          exact HE.out (Option.some.inj e)
    · have HF : Hid (d = false) := Lib.hid (by
        rw [← HD.out, decide_eq_false_iff_not]
        intro hm
        obtain ⟨j, hj, he⟩ := List.getElem_of_mem hm
        exact hall.out j (by omega) (by rw [List.getElem?_eq_getElem hj, he]))
      go_wp2_with fail
      go_ret
      exact ⟨by rw [HF.out]; rfl, rfl⟩
theorem ba_cut (s : Str) (a b : Nat) : (ba s).extract a b = ba ((s.drop a).take (b - a)) := by
  apply ByteArray.ext
  rw [ByteArray.data_extract]
  simp [ba]
theorem rletter_is {c : UInt8} {b : Bool} (h : letterB c = b) (w : World) : Calls Tryd.prog 116 #[.int .u8 c.toNat] w fun r w' => r = .returned (.bool b) ∧ w = w' := h ▸ rletter_calls c w
theorem rdigit_is {c : UInt8} {b : Bool} (h : digitB c = b) (w : World) : Calls Tryd.prog 117 #[.int .u8 c.toNat] w fun r w' => r = .returned (.bool b) ∧ w = w' := h ▸ rdigit_calls c w
/-- Where a run of a sort of bytes ends. -/
theorem run_end {p : UInt8 → Bool} {s : Str} {k j : Nat} (hk : k ≤ j) (hj : j ≤ s.length) (h : ∀ i, k ≤ i → i < j → ∃ c, s[i]? = some c ∧ p c = true) (hs : ∀ c, s[j]? = some c → p c = false) : ((s.drop k).takeWhile p).length = j - k := by
  refine takeWhile_stop p (s.drop k) (j - k) (fun i hi => ?_) (fun c hc => ?_)
  · obtain ⟨c, h1, h2⟩ := h (k + i) (by omega) (by omega)
    exact ⟨c, by rw [List.getElem?_drop]; exact h1, h2⟩
  · rw [List.getElem?_drop, show k + (j - k) = j from by omega] at hc
    exact hs c hc
theorem run_step {p : UInt8 → Bool} {s : Str} {k j : Nat} {c : UInt8} (h : ∀ i, k ≤ i → i < j → ∃ c, s[i]? = some c ∧ p c = true) (hc : s[j]? = some c) (hp : p c = true) : ∀ i, k ≤ i → i < j + 1 → ∃ c, s[i]? = some c ∧ p c = true := fun i h1 h2 => by
  rcases Nat.lt_or_ge i j with h3 | h3
  · exact h i h1 h3
  · obtain rfl : i = j := by omega
    exact ⟨c, hc, hp⟩
/-- Next's two tokens in memory: the result's, and the one that is made. -/
structure NX (w W : World) (kd : Int) (tx : ByteArray) (k0 : Nat) : Prop where
  below : Below w.heap.size w W
  size : w.heap.size + 2 ≤ W.heap.size
  r : cells3 W w.heap.size (.int .i64 0) (.string ⟨#[]⟩) (.int .i64 0)
  t : cells3 W (w.heap.size + 1) (.int .i64 kd) (.string tx) (.int .i64 k0)
  fr : ∀ o, W.frozen? ⟨w.heap.size, o, none⟩ = false
  ft : ∀ o, W.frozen? ⟨w.heap.size + 1, o, none⟩ = false
section
variable {w W W' : World} {kd kd' : Int} {tx tx' : ByteArray} {k0 : Nat}
theorem NX.start (w : World) (kd : Int) (k0 : Nat) : NX w ((w.alloc zt).alloc (.cells #[.int .i64 kd, .string ⟨#[]⟩, .int .i64 k0] 49)) kd ⟨#[]⟩ k0 := by
  have E : Ext (fun _ => False) (w.alloc zt) ((w.alloc zt).alloc (.cells #[.int .i64 kd, .string ⟨#[]⟩, .int .i64 k0] 49)) := (Ext.refl _ _).alloc _
  have n1 := cells3.new (w.alloc zt) (.int .i64 kd) (.string ⟨#[]⟩) (.int .i64 k0) 49
  have f1 := frozen_new (w.alloc zt) #[.int .i64 kd, .string ⟨#[]⟩, .int .i64 k0] 49
  rw [World.size_alloc] at n1 f1
  exact ⟨((Below.refl _ w).alloc (Nat.le_refl _) _).alloc (by simp) _, by simp, (cells3.new w _ _ _ 49).ext E id, n1, frz_ext (frozen_new w _ 49) E (by simp) id, f1⟩
theorem NX.step (h : NX w W kd tx k0) (hb : Below W.heap.size W W') : NX w W' kd tx k0 := by
  have E := Ext.of_below hb (fun _ => False)
  have hz := h.size
  exact ⟨h.below.trans (hb.mono h.below.size), Nat.le_trans hz hb.size, h.r.ext E id, h.t.ext E id, frz_ext h.fr E (by omega) id, frz_ext h.ft E (by omega) id⟩
theorem NX.kind (h : NX w W kd tx k0) (k : Int) : NX w (W.setCell ⟨w.heap.size + 1, 0, none⟩ (.int .i64 k)) k tx k0 := by
  have E := ext_cell W (w.heap.size + 1) 0 (.int .i64 k)
  have hz := h.size
  obtain ⟨a, b, c⟩ := h.t
  refine ⟨h.below.setCell (p := ⟨w.heap.size + 1, 0, none⟩) (by show w.heap.size ≤ w.heap.size + 1; omega) _, by simp [World.setCell]; omega, h.r.ext E (by omega), ⟨cell_same_set a, ?_, ?_⟩, fun o => by simp [h.fr o], fun o => by simp [h.ft o]⟩
  · rw [World.cell?_setCell_other _ _ _ _ (by simp)]; exact b
  · rw [World.cell?_setCell_other _ _ _ _ (by simp)]; exact c
theorem NX.text (h : NX w W kd tx k0) (x : ByteArray) : NX w (W.setCell ⟨w.heap.size + 1, 1, none⟩ (.string x)) kd x k0 := by
  have E := ext_cell W (w.heap.size + 1) 1 (.string x)
  have hz := h.size
  obtain ⟨a, b, c⟩ := h.t
  refine ⟨h.below.setCell (p := ⟨w.heap.size + 1, 1, none⟩) (by show w.heap.size ≤ w.heap.size + 1; omega) _, by simp [World.setCell]; omega, h.r.ext E (by omega), ⟨?_, ?_, ?_⟩, fun o => by simp [h.fr o], fun o => by simp [h.ft o]⟩
  · rw [World.cell?_setCell_other _ _ _ _ (by simp)]; exact a
  · exact World.cell?_setCell_same' _ _ _ (by rw [b]; rfl)
  · rw [World.cell?_setCell_other _ _ _ _ (by simp)]; exact c
theorem NX.fin (h : NX w W kd tx k0) {tm : Array Value} {b : Bool} (h4 : tm[4]? = some (.pointer (some ⟨w.heap.size, 0, none⟩))) (h5 : tm[5]? = some (.bool b)) (Q : Ending → World → Prop) (hQ : ∀ W', Below w.heap.size w W' → Q (.returned (.tuple #[.agg #[.int .i64 kd, .string tx, .int .i64 k0], .bool b])) W') :
    bodyPost Tryd.prog Tryd.f90 Q .ret { tmps := tm, defers := [] } (set3 W w.heap.size (.int .i64 kd) (.string tx) (.int .i64 k0)) := by
  obtain ⟨q0, q1, q2⟩ := set3_cells (.int .i64 kd) (.string tx) (.int .i64 k0) h.r
  have hB : Below w.heap.size w (set3 W w.heap.size (.int .i64 kd) (.string tx) (.int .i64 k0)) := h.below.trans ((ext_set3 W w.heap.size _ _ _).to_below h.below.size (fun b hb => by omega))
  generalize set3 W w.heap.size (.int .i64 kd) (.string tx) (.int .i64 k0) = W' at *
  exact bodyPost_ret (v := .tuple #[.agg #[.int .i64 kd, .string tx, .int .i64 k0], .bool b]) (by simp [results, Tryd.results90, go_sem, h4, h5, q0, q1, q2]) rfl (hQ W' hB)
end
/-- What Next hands back. -/
def nextV (t : Str) : Nat × Str × Bool := match first t with
  | some (k, x) => (k, x, true)
  | none => (4, [], false)
theorem next_lt {s x : Str} {k : Nat} (h : nextV s = (k, x, true)) : 0 < x.length := by
  unfold nextV at h
  cases hf : first s with
  | none => rw [hf] at h; cases h
  | some p =>
    obtain ⟨k', x'⟩ := p
    rw [hf] at h
    cases h
    exact List.length_pos_iff.2 (first_spec hf).2.1
theorem sign_prefix (t : Str) : t.take ((sign t).getD []).length = (sign t).getD [] := by
  cases h : sign t with
  | none => rfl
  | some x => exact (List.prefix_iff_eq_take.1 (sign_spec h).2).symm
set_option maxRecDepth 100000 in
set_option maxHeartbeats 4000000 in
theorem rnext_calls (s : Str) (k0 : Nat) (hk0 : k0 < s.length) (hs : s.length ≤ 1000000) (w : World) :
    Calls Tryd.prog 90 #[.string (ba s), .int .i64 k0] w fun r w' => r = .returned (.tuple #[.agg #[.int .i64 (nextV (s.drop k0)).1, .string (ba (nextV (s.drop k0)).2.1), .int .i64 k0], .bool (nextV (s.drop k0)).2.2]) ∧ Below w.heap.size w w' := by
  have hb : k0 < (ba s).size := hk0
  have HD : Hid (s.drop k0 = (ba s)[k0]'hb :: s.drop (k0 + 1)) := Lib.hid (drop_at hk0)
  have HFE : Hid (first (s.drop k0) = (if letterB ((ba s)[k0]'hb) then some (if (s.drop k0).takeWhile wordB ∈ words then (2, (s.drop k0).takeWhile wordB) else (1, (s.drop k0).takeWhile wordB)) else if digitB ((ba s)[k0]'hb) then some (3, (s.drop k0).takeWhile digitB) else (sign (s.drop k0)).map fun t => (4, t))) := Lib.hid (by rw [HD.out]; rfl)
  cases hl : letterB ((ba s)[k0]'hb) with
  | true =>
    have HC : Hid (∀ w, Calls Tryd.prog 116 #[.int .u8 ((ba s)[k0]'hb).toNat] w fun r w' => r = .returned (.bool true) ∧ w = w') := Lib.hid fun w => by
      have := rletter_calls ((ba s)[k0]'hb) w
      rwa [hl] at this
    have hl0 := Lib.hid hl
    clear hl
    go_enter Tryd.func90, Tryd.ntmps90
    go_wp2_with fail
    refine (HC.out _).mono ?_
    rintro en w1 ⟨rfl, rfl⟩
    go_wp2_with fail
    go_loop [7] (fun e => ∃ j : Nat, k0 ≤ j ∧ j ≤ s.length ∧ e = .int .i64 j ∧ Hid (∀ i, k0 ≤ i → i < j → ∃ c, s[i]? = some c ∧ wordB c = true)) (fun e => s.length - (intOf e).toNat)
    case atStart => exact ⟨k0, Nat.le_refl _, by omega, rfl, Lib.hid fun i h1 h2 => absurd h1 (by omega)⟩
    case round =>
      obtain ⟨j, hkj, hj, rfl, hall⟩ := hrel
      by_cases hjt : j < s.length
      · have hbj : j < (ba s).size := hjt
        have HG : Hid (s[j]? = some ((ba s)[j]'hbj)) := Lib.hid (List.getElem?_eq_getElem hjt)
        cases hlj : letterB ((ba s)[j]'hbj) with
        | true =>
          have HL := Lib.hid (rletter_is hlj)
          have HS := Lib.hid (run_step hall.out HG.out (p := wordB) (by simp [wordB, hlj]))
          clear hlj
          go_wp2_with fail
          refine (HL.out _).mono ?_
          rintro en w1 ⟨rfl, rfl⟩
          go_wp2_with fail
          exact ⟨⟨j + 1, by omega, by omega, by go_num, HS⟩, by simp [intOf]; omega⟩
        | false =>
          have HL := Lib.hid (rletter_is hlj)
          cases hdj : digitB ((ba s)[j]'hbj) with
          | true =>
            have HL2 := Lib.hid (rdigit_is hdj)
            have HS := Lib.hid (run_step hall.out HG.out (p := wordB) (by simp [wordB, hdj]))
            clear hlj hdj
            go_wp2_with fail
            refine (HL.out _).mono ?_
            rintro en w1 ⟨rfl, rfl⟩
            go_wp2_with fail
            refine (HL2.out _).mono ?_
            rintro en w1 ⟨rfl, rfl⟩
            go_wp2_with fail
            exact ⟨⟨j + 1, by omega, by omega, by go_num, HS⟩, by simp [intOf]; omega⟩
          | false =>
            have HL2 := Lib.hid (rdigit_is hdj)
            have HE := Lib.hid (run_end hkj hj hall.out (p := wordB) (fun c hc => by rw [HG.out] at hc; cases hc; simp [wordB, hlj, hdj]))
            clear hlj hdj
            go_wp2_with fail
            refine (HL.out _).mono ?_
            rintro en w1 ⟨rfl, rfl⟩
            go_wp2_with fail
            refine (HL2.out _).mono ?_
            rintro en w1 ⟨rfl, rfl⟩
            go_wp2_with fail
            have hnx := NX.start w 1 k0
            generalize (w.alloc zt).alloc (.cells #[.int .i64 1, .string ⟨#[]⟩, .int .i64 k0] 49) = W3 at hnx ⊢
            have hz3 := hnx.size
            have HNX := Lib.hid hnx
            clear hnx
            have hx : (ba s).extract k0 j = ba ((s.drop k0).takeWhile wordB) := by rw [ba_cut, ← HE.out, take_takeWhile]
            generalize (s.drop k0).takeWhile wordB = t at HE HFE hx
            have HX := Lib.hid hx
            clear hx
            go_region_held3 (fun w' => True) (exact trivial)
              (first
                | (go_at_call 118; refine (rwords_calls _).mono ?_; rintro en w2 ⟨rfl, rfl⟩)
                | (go_at_call 60; rw [HX.out]; refine (rhas_calls words t _ _ _ ((words_at W3).keep (w1 := (W3.alloc (strsObj words)).drew) (fun _ _ => rfl))).mono ?_; rintro en w2 ⟨rfl, rfl⟩))
            have HN2 := Lib.hid (HNX.out.step (((Below.refl W3.heap.size W3).alloc (Nat.le_refl _) (strsObj words)).drew))
            generalize (W3.alloc (strsObj words)).drew = W4 at HN2 ⊢
            obtain ⟨t0, t1, t2⟩ := HN2.out.t
            obtain ⟨r0, r1, r2⟩ := HN2.out.r
            have fr := HN2.out.fr
            have ft := HN2.out.ft
            cases hm : decide (t ∈ words) with
            | true =>
              have HV : Hid (nextV (s.drop k0) = (2, t, true)) := Lib.hid (by unfold nextV; rw [HFE.out, if_pos hl0.out, if_pos (of_decide_eq_true hm)])
              have hlt2 := next_lt HV.out
              have d1 : decide (k0 < j) = true := by rw [decide_eq_true_eq]; have := HE.out; omega
              clear hm
              go_wp2_with fail
              rw [HX.out]
              exact ((HN2.out.kind 2).text (ba t)).fin rfl rfl _ (fun W' hB => ⟨by rw [HV.out]; rfl, hB⟩)
            | false =>
              have HV : Hid (nextV (s.drop k0) = (1, t, true)) := Lib.hid (by unfold nextV; rw [HFE.out, if_pos hl0.out, if_neg (of_decide_eq_false hm)])
              have hlt2 := next_lt HV.out
              have d1 : decide (k0 < j) = true := by rw [decide_eq_true_eq]; have := HE.out; omega
              clear hm
              go_wp2_with fail
              rw [HX.out]
              exact (HN2.out.text (ba t)).fin rfl rfl _ (fun W' hB => ⟨by rw [HV.out]; rfl, hB⟩)
      · obtain rfl : j = s.length := by omega
        have HE := Lib.hid (run_end hkj hj hall.out (p := wordB) (fun c hc => by rw [List.getElem?_eq_none (Nat.le_refl _)] at hc; cases hc))
        go_wp2_with fail
        have hnx := NX.start w 1 k0
        generalize (w.alloc zt).alloc (.cells #[.int .i64 1, .string ⟨#[]⟩, .int .i64 k0] 49) = W3 at hnx ⊢
        have hz3 := hnx.size
        have HNX := Lib.hid hnx
        clear hnx
        have hx : (ba s).extract k0 s.length = ba ((s.drop k0).takeWhile wordB) := by rw [ba_cut, ← HE.out, take_takeWhile]
        generalize (s.drop k0).takeWhile wordB = t at HE HFE hx
        have HX := Lib.hid hx
        clear hx
        go_region_held3 (fun w' => True) (exact trivial)
          (first
            | (go_at_call 118; refine (rwords_calls _).mono ?_; rintro en w2 ⟨rfl, rfl⟩)
            | (go_at_call 60; rw [HX.out]; refine (rhas_calls words t _ _ _ ((words_at W3).keep (w1 := (W3.alloc (strsObj words)).drew) (fun _ _ => rfl))).mono ?_; rintro en w2 ⟨rfl, rfl⟩))
        have HN2 := Lib.hid (HNX.out.step (((Below.refl W3.heap.size W3).alloc (Nat.le_refl _) (strsObj words)).drew))
        generalize (W3.alloc (strsObj words)).drew = W4 at HN2 ⊢
        obtain ⟨t0, t1, t2⟩ := HN2.out.t
        obtain ⟨r0, r1, r2⟩ := HN2.out.r
        have fr := HN2.out.fr
        have ft := HN2.out.ft
        cases hm : decide (t ∈ words) with
        | true =>
          have HV : Hid (nextV (s.drop k0) = (2, t, true)) := Lib.hid (by unfold nextV; rw [HFE.out, if_pos hl0.out, if_pos (of_decide_eq_true hm)])
          have hlt2 := next_lt HV.out
          have d1 : decide (k0 < s.length) = true := by rw [decide_eq_true_eq]; have := HE.out; omega
          clear hm
          go_wp2_with fail
          rw [HX.out]
          exact ((HN2.out.kind 2).text (ba t)).fin rfl rfl _ (fun W' hB => ⟨by rw [HV.out]; rfl, hB⟩)
        | false =>
          have HV : Hid (nextV (s.drop k0) = (1, t, true)) := Lib.hid (by unfold nextV; rw [HFE.out, if_pos hl0.out, if_neg (of_decide_eq_false hm)])
          have hlt2 := next_lt HV.out
          have d1 : decide (k0 < s.length) = true := by rw [decide_eq_true_eq]; have := HE.out; omega
          clear hm
          go_wp2_with fail
          rw [HX.out]
          exact (HN2.out.text (ba t)).fin rfl rfl _ (fun W' hB => ⟨by rw [HV.out]; rfl, hB⟩)
  | false =>
    have HC : Hid (∀ w, Calls Tryd.prog 116 #[.int .u8 ((ba s)[k0]'hb).toNat] w fun r w' => r = .returned (.bool false) ∧ w = w') := Lib.hid fun w => rletter_is hl w
    have hl0 : Hid (¬ letterB ((ba s)[k0]'hb) = true) := Lib.hid (by rw [hl]; simp)
    clear hl
    cases hd : digitB ((ba s)[k0]'hb) with
    | true =>
      have HC2 : Hid (∀ w, Calls Tryd.prog 117 #[.int .u8 ((ba s)[k0]'hb).toNat] w fun r w' => r = .returned (.bool true) ∧ w = w') := Lib.hid fun w => rdigit_is hd w
      have hd0 := Lib.hid hd
      clear hd
      go_enter Tryd.func90, Tryd.ntmps90
      go_wp2_with fail
      refine (HC.out _).mono ?_
      rintro en w1 ⟨rfl, rfl⟩
      go_wp2_with fail
      refine (HC2.out _).mono ?_
      rintro en w1 ⟨rfl, rfl⟩
      go_wp2_with fail
      go_loop [7] (fun e => ∃ j : Nat, k0 ≤ j ∧ j ≤ s.length ∧ e = .int .i64 j ∧ Hid (∀ i, k0 ≤ i → i < j → ∃ c, s[i]? = some c ∧ digitB c = true)) (fun e => s.length - (intOf e).toNat)
      case atStart => exact ⟨k0, Nat.le_refl _, by omega, rfl, Lib.hid fun i h1 h2 => absurd h1 (by omega)⟩
      case round =>
        obtain ⟨j, hkj, hj, rfl, hall⟩ := hrel
        by_cases hjt : j < s.length
        · have hbj : j < (ba s).size := hjt
          have HG : Hid (s[j]? = some ((ba s)[j]'hbj)) := Lib.hid (List.getElem?_eq_getElem hjt)
          cases hdj : digitB ((ba s)[j]'hbj) with
          | true =>
            have HL := Lib.hid (rdigit_is hdj)
            have HS := Lib.hid (run_step hall.out HG.out (p := digitB) hdj)
            clear hdj
            go_wp2_with fail
            refine (HL.out _).mono ?_
            rintro en w1 ⟨rfl, rfl⟩
            go_wp2_with fail
            exact ⟨⟨j + 1, by omega, by omega, by go_num, HS⟩, by simp [intOf]; omega⟩
          | false =>
            have HL := Lib.hid (rdigit_is hdj)
            have HE := Lib.hid (run_end hkj hj hall.out (p := digitB) (fun c hc => by rw [HG.out] at hc; cases hc; exact hdj))
            clear hdj
            go_wp2_with fail
            refine (HL.out _).mono ?_
            rintro en w1 ⟨rfl, rfl⟩
            have hx : (ba s).extract k0 j = ba ((s.drop k0).takeWhile digitB) := by rw [ba_cut, ← HE.out, take_takeWhile]
            have HV : Hid (nextV (s.drop k0) = (3, (s.drop k0).takeWhile digitB, true)) := Lib.hid (by unfold nextV; rw [HFE.out, if_neg hl0.out, if_pos hd0.out])
            have hlt2 := next_lt HV.out
            have d1 : decide (k0 < j) = true := by rw [decide_eq_true_eq]; have := HE.out; omega
            generalize (s.drop k0).takeWhile digitB = t at HE HFE hx HV hlt2
            have HX := Lib.hid hx
            have hnx := NX.start w 0 k0
            generalize (w.alloc zt).alloc (.cells #[.int .i64 0, .string ⟨#[]⟩, .int .i64 k0] 49) = W4 at hnx ⊢
            have HN2 := Lib.hid hnx
            obtain ⟨t0, t1, t2⟩ := hnx.t
            obtain ⟨r0, r1, r2⟩ := hnx.r
            have fr := hnx.fr
            have ft := hnx.ft
            clear hx hnx
            go_wp2_with fail
            rw [HX.out]
            exact ((HN2.out.kind 3).text (ba t)).fin rfl rfl _ (fun W' hB => ⟨by rw [HV.out]; rfl, hB⟩)
        · obtain rfl : j = s.length := by omega
          have HE := Lib.hid (run_end hkj hj hall.out (p := digitB) (fun c hc => by rw [List.getElem?_eq_none (Nat.le_refl _)] at hc; cases hc))
          have hx : (ba s).extract k0 s.length = ba ((s.drop k0).takeWhile digitB) := by rw [ba_cut, ← HE.out, take_takeWhile]
          have HV : Hid (nextV (s.drop k0) = (3, (s.drop k0).takeWhile digitB, true)) := Lib.hid (by unfold nextV; rw [HFE.out, if_neg hl0.out, if_pos hd0.out])
          have hlt2 := next_lt HV.out
          have d1 : decide (k0 < s.length) = true := by rw [decide_eq_true_eq]; have := HE.out; omega
          generalize (s.drop k0).takeWhile digitB = t at HE HFE hx HV hlt2
          have HX := Lib.hid hx
          have hnx := NX.start w 0 k0
          generalize (w.alloc zt).alloc (.cells #[.int .i64 0, .string ⟨#[]⟩, .int .i64 k0] 49) = W4 at hnx ⊢
          have HN2 := Lib.hid hnx
          obtain ⟨t0, t1, t2⟩ := hnx.t
          obtain ⟨r0, r1, r2⟩ := hnx.r
          have fr := hnx.fr
          have ft := hnx.ft
          clear hx hnx
          go_wp2_with fail
          rw [HX.out]
          exact ((HN2.out.kind 3).text (ba t)).fin rfl rfl _ (fun W' hB => ⟨by rw [HV.out]; rfl, hB⟩)
    | false =>
      have HC2 : Hid (∀ w, Calls Tryd.prog 117 #[.int .u8 ((ba s)[k0]'hb).toNat] w fun r w' => r = .returned (.bool false) ∧ w = w') := Lib.hid fun w => rdigit_is hd w
      have hd0 : Hid (¬ digitB ((ba s)[k0]'hb) = true) := Lib.hid (by rw [hd]; simp)
      clear hd
      go_enter Tryd.func90, Tryd.ntmps90
      go_wp2_with fail
      refine (HC.out _).mono ?_
      rintro en w1 ⟨rfl, rfl⟩
      go_wp2_with fail
      refine (HC2.out _).mono ?_
      rintro en w1 ⟨rfl, rfl⟩
      go_wp2_with fail
      have HV : Hid (nextV (s.drop k0) = (4, (sign (s.drop k0)).getD [], !((sign (s.drop k0)).getD []).isEmpty)) := Lib.hid (by
        unfold nextV
        rw [HFE.out, if_neg hl0.out, if_neg hd0.out]
        cases hsg : sign (s.drop k0) with
        | none => rfl
        | some t =>
          have := (sign_spec hsg).1
          have hne : t ≠ [] := by rintro rfl; exact absurd this (by decide)
          cases t with
          | nil => exact absurd rfl hne
          | cons c r => rfl)
      have hnx0 := NX.start w 4 k0
      generalize (w.alloc zt).alloc (.cells #[.int .i64 4, .string ⟨#[]⟩, .int .i64 k0] 49) = W3 at hnx0 ⊢
      have HN0 := Lib.hid hnx0
      clear hnx0
      go_loopw [7, 8] (fun e k wr => NX w wr 4 ⟨#[]⟩ k0 ∧ ((k = .int .i64 1 ∧ e = .int .i64 k0) ∨ (k = .int .i64 2 ∧ e = .int .i64 (k0 + (if (s.drop k0).take 1 ∈ signs then 1 else 0) : Nat)) ∨ (k = .int .i64 3 ∧ k0 + 2 ≤ s.length ∧ e = .int .i64 (k0 + ((sign (s.drop k0)).getD []).length : Nat)))) (fun _ k _ => 3 - (intOf k).toNat)
      case atStart => exact ⟨HN0.out, .inl ⟨rfl, rfl⟩⟩
      case round =>
        obtain ⟨hnx, (⟨rfl, rfl⟩ | ⟨rfl, rfl⟩ | ⟨rfl, h2, rfl⟩)⟩ := hrel
        · have d1 : decide ((k0 : Int) + 1 ≤ (s.length : Int)) = true := by simp; omega
          have hx : (ba s).extract k0 (k0 + 1) = ba ((s.drop k0).take 1) := by rw [ba_cut, Nat.add_sub_cancel_left]
          have HX := Lib.hid hx
          generalize ht1 : (s.drop k0).take 1 = t1 at HX ⊢
          have HNX := Lib.hid hnx
          have hz := hnx.size
          clear hx hnx ht1
          go_wp2_with fail
          have g1 : IntKind.i64.wrap ((k0 : Int) + 1) = (k0 : Int) + 1 := IntWalk.i64_in _ (by omega)
          have g2 : (0 : Int) ≤ (k0 : Int) + 1 := by omega
          have g3 : ((k0 : Int) + 1).toNat = k0 + 1 := by omega
          have g4 : (k0 : Int) ≤ (k0 : Int) + 1 := by omega
          have g5 : (k0 : Int) + 1 ≤ (s.length : Int) := by omega
          go_region_held3 (fun w' => True) (exact trivial)
            (first
              | (go_at_call 119; refine (rsigns_calls _).mono ?_; rintro en w2 ⟨rfl, rfl⟩)
              | (go_at_call 60; rw [HX.out]; refine (rhas_calls signs t1 _ _ _ ((signs_at wr).keep (w1 := (wr.alloc (strsObj signs)).drew) (fun _ _ => rfl))).mono ?_; rintro en w2 ⟨rfl, rfl⟩))
          have HN2 := Lib.hid (HNX.out.step (((Below.refl wr.heap.size wr).alloc (Nat.le_refl _) (strsObj signs)).drew))
          generalize (wr.alloc (strsObj signs)).drew = W4 at HN2 ⊢
          cases hm : decide (t1 ∈ signs) with
          | true =>
            have hm' : t1 ∈ signs := of_decide_eq_true hm
            clear hm
            go_wp2_with fail
            exact ⟨⟨HN2.out, .inr (.inl ⟨rfl, by rw [if_pos hm']; go_num⟩)⟩, by simp [intOf]⟩
          | false =>
            have hm' : ¬ t1 ∈ signs := of_decide_eq_false hm
            clear hm
            go_wp2_with fail
            exact ⟨⟨HN2.out, .inr (.inl ⟨rfl, by rw [if_neg hm', Nat.add_zero]⟩)⟩, by simp [intOf]⟩
        · by_cases h2 : k0 + 2 ≤ s.length
          · have d1 : decide ((k0 : Int) + 2 ≤ (s.length : Int)) = true := by simp; omega
            have hx : (ba s).extract k0 (k0 + 2) = ba ((s.drop k0).take 2) := by rw [ba_cut, Nat.add_sub_cancel_left]
            have HX := Lib.hid hx
            have hsg : ((sign (s.drop k0)).getD []).length = if (s.drop k0).take 2 ∈ signs then 2 else if (s.drop k0).take 1 ∈ signs then 1 else 0 := by
              have hl2 : 2 ≤ (s.drop k0).length := by rw [List.length_drop]; omega
              unfold sign
              by_cases h3 : (s.drop k0).take 2 ∈ signs
              · rw [if_pos ⟨h3, hl2⟩, if_pos h3]; show ((s.drop k0).take 2).length = 2; rw [List.length_take]; omega
              · rw [if_neg (fun h => h3 h.1), if_neg h3]
                split
                · show ((s.drop k0).take 1).length = 1; rw [List.length_take]; omega
                · rfl
            have HSG := Lib.hid hsg
            generalize ht1 : (s.drop k0).take 2 = t1 at HX HSG ⊢
            generalize hE1 : (if (s.drop k0).take 1 ∈ signs then 1 else 0) = E1 at HSG ⊢
            have hE1' : E1 ≤ 1 := by rw [← hE1]; split <;> omega
            have HNX := Lib.hid hnx
            have hz := hnx.size
            clear hx hnx ht1 hsg hE1
            go_wp2_with fail
            have g1 : IntKind.i64.wrap ((k0 : Int) + 2) = (k0 : Int) + 2 := IntWalk.i64_in _ (by omega)
            have g2 : (0 : Int) ≤ (k0 : Int) + 2 := by omega
            have g3 : ((k0 : Int) + 2).toNat = k0 + 2 := by omega
            have g4 : (k0 : Int) ≤ (k0 : Int) + 2 := by omega
            have g5 : (k0 : Int) + 2 ≤ (s.length : Int) := by omega
            go_region_held3 (fun w' => True) (exact trivial)
              (first
                | (go_at_call 119; refine (rsigns_calls _).mono ?_; rintro en w2 ⟨rfl, rfl⟩)
                | (go_at_call 60; rw [HX.out]; refine (rhas_calls signs t1 _ _ _ ((signs_at wr).keep (w1 := (wr.alloc (strsObj signs)).drew) (fun _ _ => rfl))).mono ?_; rintro en w2 ⟨rfl, rfl⟩))
            have HN2 := Lib.hid (HNX.out.step (((Below.refl wr.heap.size wr).alloc (Nat.le_refl _) (strsObj signs)).drew))
            generalize (wr.alloc (strsObj signs)).drew = W4 at HN2 ⊢
            cases hm : decide (t1 ∈ signs) with
            | true =>
              have hm' : t1 ∈ signs := of_decide_eq_true hm
              clear hm
              go_wp2_with fail
              exact ⟨⟨HN2.out, .inr (.inr ⟨rfl, h2, by rw [HSG.out, if_pos hm']; go_num⟩)⟩, by simp [intOf]⟩
            | false =>
              have hm' : ¬ t1 ∈ signs := of_decide_eq_false hm
              clear hm
              go_wp2_with fail
              exact ⟨⟨HN2.out, .inr (.inr ⟨rfl, h2, by rw [HSG.out, if_neg hm']; rfl⟩)⟩, by simp [intOf]⟩
          · have d0 : decide ((k0 : Int) + 2 ≤ (s.length : Int)) = false := by simp; omega
            have hsg : ((sign (s.drop k0)).getD []).length = if (s.drop k0).take 1 ∈ signs then 1 else 0 := by
              unfold sign
              rw [if_neg (fun h => by have := h.2; rw [List.length_drop] at this; omega)]
              split
              · show ((s.drop k0).take 1).length = 1; rw [List.length_take, List.length_drop]; omega
              · rfl
            obtain ⟨M, hM⟩ : ∃ M, M = k0 + ((sign (s.drop k0)).getD []).length := ⟨_, rfl⟩
            rw [← hsg, ← hM]
            clear hsg
            have hpre := sign_prefix (s.drop k0)
            have hx : (ba s).extract k0 M = ba ((sign (s.drop k0)).getD []) := by rw [ba_cut, hM, Nat.add_sub_cancel_left]; exact congrArg ba hpre
            have hMl : M ≤ s.length := by
              have := congrArg List.length hpre
              rw [List.length_take, List.length_drop] at this
              omega
            have d1 : decide (k0 < M) = !((sign (s.drop k0)).getD []).isEmpty := by
              cases ht : (sign (s.drop k0)).getD [] with
              | nil => rw [hM, ht]; simp
              | cons c r => rw [hM, ht]; simp
            have hkM : k0 ≤ M := by omega
            generalize (sign (s.drop k0)).getD [] = t at HV hx d1 hM hpre
            have HX := Lib.hid hx
            obtain ⟨t0, t1, t2⟩ := hnx.t
            obtain ⟨r0, r1, r2⟩ := hnx.r
            have fr := hnx.fr
            have ft := hnx.ft
            have HNX := Lib.hid hnx
            clear hx hM hpre hnx
            go_wp2_with fail
            rw [HX.out]
            exact (HNX.out.text (ba t)).fin rfl rfl _ (fun W' hB => ⟨by rw [HV.out]; rfl, hB⟩)
        · obtain ⟨M, hM⟩ : ∃ M, M = k0 + ((sign (s.drop k0)).getD []).length := ⟨_, rfl⟩
          rw [← hM]
          have hpre := sign_prefix (s.drop k0)
          have hx : (ba s).extract k0 M = ba ((sign (s.drop k0)).getD []) := by rw [ba_cut, hM, Nat.add_sub_cancel_left]; exact congrArg ba hpre
          have hMl : M ≤ s.length := by
            have := congrArg List.length hpre
            rw [List.length_take, List.length_drop] at this
            omega
          have d1 : decide (k0 < M) = !((sign (s.drop k0)).getD []).isEmpty := by
            cases ht : (sign (s.drop k0)).getD [] with
            | nil => rw [hM, ht]; simp
            | cons c r => rw [hM, ht]; simp
          have hkM : k0 ≤ M := by omega
          generalize (sign (s.drop k0)).getD [] = t at HV hx d1 hM hpre
          have HX := Lib.hid hx
          obtain ⟨t0, t1, t2⟩ := hnx.t
          obtain ⟨r0, r1, r2⟩ := hnx.r
          have fr := hnx.fr
          have ft := hnx.ft
          have HNX := Lib.hid hnx
          clear hx hM hpre hnx
          go_wp2_with fail
          rw [HX.out]
          exact (HNX.out.text (ba t)).fin rfl rfl _ (fun W' hB => ⟨by rw [HV.out]; rfl, hB⟩)
end Go.Proofs.YtdijffojppjmfaaDoor
set_option linter.unusedVariables false
set_option linter.unusedSimpArgs false
namespace Bir
def LexR.pre (p : List Tok) : LexR → LexR
  | .ok l => .ok (p ++ l)
  | .bad n => .bad n
theorem LexR.pre_nil (r : LexR) : r.pre [] = r := by cases r <;> rfl
theorem LexR.pre_cons (p : List Tok) (t : Tok) (r : LexR) : (r.cons t).pre p = r.pre (p ++ [t]) := by
  cases r with
  | ok l => simp [LexR.pre, LexR.cons]
  | bad n => rfl
end Bir
namespace Go.Proofs.YtdijffojppjmfaaDoor
open Go.RowKit Bir Go.BW
theorem skipAt_le (s : Str) (k : Nat) : skipAt s k ≤ s.length := by unfold skipAt; omega
theorem skipAt_drop (s : Str) (k : Nat) : s.drop (skipAt s k) = skip false (s.drop k) := by
  unfold skipAt
  have h1 := (skip_suffix false (s.drop k)).trans (List.drop_suffix k s)
  exact (List.suffix_iff_eq_drop.1 h1).symm
theorem skipAt_ge (s : Str) (k : Nat) (hk : k ≤ s.length) : k ≤ skipAt s k := by
  unfold skipAt
  have := skip_le false (s.drop k)
  rw [List.length_drop] at this
  omega
theorem lexF_step {m k : Nat} {s : Str} (hk : k < s.length) :
    lexF (m + 1) k (s.drop k) = match first (s.drop k) with
      | none => .bad k
      | some (kd, t) => (lexF m (skipAt s (k + t.length)) (s.drop (skipAt s (k + t.length)))).cons ⟨kd, t, k⟩ := by
  have hne : s.drop k ≠ [] := fun h => by have := congrArg List.length h; rw [List.length_drop] at this; simp at this; omega
  cases hd : s.drop k with
  | nil => exact absurd hd hne
  | cons c r =>
    conv => lhs; unfold lexF
    cases hf : first (c :: r) with
    | none => rfl
    | some p =>
      obtain ⟨kd, t⟩ := p
      simp only
      have e1 : skip false ((c :: r).drop t.length) = s.drop (skipAt s (k + t.length)) := by rw [skipAt_drop, ← hd, List.drop_drop]
      have hl := skipAt_le s (k + t.length)
      have e2 : k + ((c :: r).length - (s.drop (skipAt s (k + t.length))).length) = skipAt s (k + t.length) := by
        have h1 := (first_spec hf).1.length_le
        rw [← hd] at h1 ⊢
        have hge := skipAt_ge s (k + t.length) (by rw [List.length_drop] at h1; omega)
        rw [List.length_drop, List.length_drop]
        omega
      rw [e1, e2]
/-- The tokens' row is a row of tokens. -/
def TokT (en : Ending) (w' : World) : Prop := ∀ A n c a k, en = .returned (.tuple #[.slice (some A) n c, a, k]) → ∃ cs fr, w'.heap[A.block]? = some (.cells cs 49 fr)
theorem tokT_none (a b : Value) (w : World) : TokT (.returned (.tuple #[.slice none 0 0, a, b])) w := fun A n c a' k h => by simp at h
theorem tokT_own {W : World} {base n : Nat} {A : Option Addr} {c : Nat} {cs : List Value} (h : W.ownsRow base 49 3 (.slice A n c) n cs) (a b : Value) : TokT (.returned (.tuple #[.slice A n c, a, b])) W := by
  intro A' n' c' a' k he
  have hA : A = some A' := by
    injection he with he
    injection he with he
    have := congrArg (fun v : Array Value => v[0]?) he
    simp at this
    exact this.1
  rcases h.2 with ⟨h1, _⟩ | ⟨g, cap, cur, h1, _, hh, _⟩
  · injection h1 with h1 _ _
    rw [h1] at hA
    cases hA
  · injection h1 with h1 _ _
    rw [h1] at hA
    injection hA with hA
    subst hA
    exact ⟨cur, _, hh⟩
def RAPost (s : Str) (w : World) (en : Ending) (w' : World) : Prop :=
  Below w.heap.size w w' ∧ ((∃ a : Nat, lex s = .bad a ∧ en = .returned (.tuple #[.slice none 0 0, .int .i64 a, .bool false])) ∨
    ∃ l A c, lex s = .ok l ∧ en = .returned (.tuple #[.slice A l.length c, .int .i64 0, .bool true]) ∧ l.length ≤ c ∧ c ≤ 9223372036854775807 ∧ (l = [] ∨ ∃ tb, A = some ⟨tb, 0, none⟩ ∧ w.heap.size ≤ tb ∧ tb < w'.heap.size ∧ ToksAt w' tb 0 l))
theorem toks_of_own {w W : World} {base : Nat} {A : Option Addr} {c : Nat} {l : List Tok} (h : W.ownsRow base 49 3 (.slice A l.length c) l.length (tokCells l)) (hb : w.heap.size ≤ base) :
    l.length ≤ c ∧ c ≤ 9223372036854775807 ∧ (l = [] ∨ ∃ tb, A = some ⟨tb, 0, none⟩ ∧ w.heap.size ≤ tb ∧ tb < W.heap.size ∧ ToksAt W tb 0 l) := by
  refine ⟨?_, ?_, ?_⟩
  · obtain ⟨A', c', e, hc⟩ := (VRow.of_own h).slice
    injection e with _ _ e
    omega
  · rcases h.2 with ⟨h1, _⟩ | ⟨g, cap, cur, h1, _, _, _, h2, _⟩
    · injection h1 with _ _ h1; omega
    · injection h1 with _ _ h1; simp only [maxLen] at h2; omega
  · rcases h.2 with ⟨_, h1⟩ | ⟨g, cap, cur, h1, hg, hh, _, _, _, _⟩
    · exact .inl (List.eq_nil_of_length_eq_zero h1)
    · injection h1 with h1 _ _
      refine .inr ⟨g, h1, by omega, (Array.getElem?_eq_some_iff.1 hh).1, fun j t hj => ?_⟩
      subst h1
      obtain ⟨k0, k1, k2⟩ := tokCells_at _ j t hj
      have hcell : ∀ i u, (tokCells l)[i]? = some u → W.cell? ⟨g, 0 + i, none⟩ = some u := fun i u hu => by
        have := h.cells (g := g) rfl i u hu
        rwa [show (⟨g, 0, none⟩ : Addr).add i = ⟨g, 0 + i, none⟩ from by unfold Addr.add; split <;> simp_all] at this
      exact ⟨hcell _ _ k0, hcell _ _ k1, hcell _ _ k2⟩
set_option maxRecDepth 100000 in
set_option maxHeartbeats 4000000 in
theorem rall_calls (s : Str) (hs : s.length ≤ 1000000) (w : World) : Calls Tryd.prog 49 #[.string (ba s)] w (fun en w' => RAPost s w en w' ∧ TokT en w') := by
  have hx0 : lex s = lexF (s.length + 1) (skipAt s 0) (s.drop (skipAt s 0)) := by rw [skipAt_drop]; rfl
  have HX0 := Lib.hid hx0
  clear hx0
  go_enter Tryd.func49, Tryd.ntmps49
  go_wp2_with fail
  refine (rskip_calls s 0 (by omega) hs _).mono ?_
  rintro en w1 ⟨rfl, rfl⟩
  have hz := skipAt_le s 0
  go_wp2_with fail
  go_loopw [5, 6] (fun o a wr => ∃ (pre : List Tok) (k m : Nat), k ≤ s.length ∧ a = .int .i64 k ∧ wr.ownsRow w.heap.size 49 3 o pre.length (tokCells pre) ∧ pre.length ≤ k ∧ Below w.heap.size w wr ∧ s.length - k < m ∧ Hid (lex s = (lexF m k (s.drop k)).pre pre)) (fun _ a _ => s.length - (intOf a).toNat)
  case atStart => exact ⟨[], skipAt s 0, s.length + 1, hz, rfl, World.ownsRow_nil _ _ _ _, by simp, Below.refl _ _, by omega, Lib.hid (by rw [LexR.pre_nil]; exact HX0.out)⟩
  case round =>
    obtain ⟨pre, k, m, hk, rfl, hown, hpk, hb, hm, hg⟩ := hrel
    obtain ⟨A, c, rfl, _⟩ := (VRow.of_own hown).slice
    by_cases hlt : k < s.length
    · obtain ⟨m, rfl⟩ : ∃ m', m = m' + 1 := ⟨m - 1, by omega⟩
      have hst := lexF_step (m := m) hlt
      have HOWN := Lib.hid hown
      clear hown
      go_wp2_with fail
      cases hf : first (s.drop k) with
      | none =>
        have HV : Hid (nextV (s.drop k) = (4, [], false)) := Lib.hid (by unfold nextV; rw [hf])
        have HL : Hid (lex s = .bad k) := Lib.hid (by rw [hg.out, hst, hf]; rfl)
        clear hst hf
        refine (rnext_calls s k hlt hs _).mono ?_
        rw [HV.out]
        rintro en w1 ⟨rfl, hb1⟩
        go_wp2_with fail
        refine bodyPost_ret (v := .tuple #[.slice none 0 0, .int .i64 k, .bool false]) (by simp [results, Tryd.results49, go_sem]) rfl ⟨⟨(hb.trans (hb1.mono hb.size)).alloc (by have := hb.size; have := hb1.size; omega) _, .inl ⟨k, HL.out, rfl⟩⟩, tokT_none _ _ _⟩
      | some p =>
        obtain ⟨kd, t⟩ := p
        have HV : Hid (nextV (s.drop k) = (kd, t, true)) := Lib.hid (by unfold nextV; rw [hf])
        have hsp := first_spec hf
        have htl : k + t.length ≤ s.length := by have := hsp.1.length_le; rw [List.length_drop] at this; omega
        have ht0 : 0 < t.length := List.length_pos_iff.2 hsp.2.1
        have HL : Hid (lex s = (lexF m (skipAt s (k + t.length)) (s.drop (skipAt s (k + t.length)))).pre (pre ++ [⟨kd, t, k⟩])) := Lib.hid (by rw [hg.out, hst, hf]; exact LexR.pre_cons _ _ _)
        have hge := skipAt_ge s (k + t.length) htl
        have hle := skipAt_le s (k + t.length)
        clear hst hf hsp hg
        refine (rnext_calls s k hlt hs _).mono ?_
        rw [HV.out]
        rintro en w1 ⟨rfl, hb1⟩
        have hsz := hb.size
        have hsz1 := hb1.size
        have hown1 := (ownsRow_same HOWN.out (w1 := w1) (fun g hg => hb1.block g (ownsRow_block HOWN.out hg).2))
        have HO1 := Lib.hid (hown1.alloc (.cells #[.int .i64 kd, .string (ba t), .int .i64 k] 49))
        have HB1 := Lib.hid ((hb.trans (hb1.mono hb.size)).alloc (by omega) (.cells #[.int .i64 kd, .string (ba t), .int .i64 k] 49))
        have hn := cells3.new w1 (.int .i64 kd) (.string (ba t)) (.int .i64 k) 49
        have hlt1 : w1.heap.size < (w1.alloc (.cells #[.int .i64 kd, .string (ba t), .int .i64 k] 49)).heap.size := by simp
        have hsz2 : (w1.alloc (.cells #[.int .i64 kd, .string (ba t), .int .i64 k] 49)).heap.size = w1.heap.size + 1 := by simp
        have hob := (fun g hg => ownsRow_block hown1 (g := g) hg)
        have HOB := Lib.hid hob
        clear hown1 hb hb1 HOWN hob
        have hE : Value.slice (some ⟨w1.heap.size + 1, 0, none⟩) 1 1 = Value.slice (some ⟨(w1.alloc (.cells #[.int .i64 kd, .string (ba t), .int .i64 k] 49)).heap.size, 0, none⟩) 1 1 := congrArg (fun n => Value.slice (some ⟨n, 0, none⟩) 1 1) hsz2.symm
        have HE := Lib.hid hE
        have HN := Lib.hid hn
        clear hE hn
        go_wp2_with (at_builtin; refine append_one (w1.alloc (.cells #[.int .i64 kd, .string (ba t), .int .i64 k] 49)) w.heap.size rfl _ _ 42 49 _ 3 32 rfl Tryd.underlying42 infoTok rfl (by decide) (by decide) (.slice A pre.length c) pre.length (tokCells pre) [.int .i64 kd, .string (ba t), .int .i64 k] rfl (by exact HE.out) rfl (by simp [Value.oneCell']) HO1.out (by omega) (by omega) ?_; intro v1 w7 hown7 hg7 hat7; have hx7 : Ext (fun b => (Value.slice A pre.length c).ownBlock = some b) (w1.alloc (.cells #[.int .i64 kd, .string (ba t), .int .i64 k] 49)) w7 := (Ext.refl _ _).grown hg7 (fun k hk => .inl hk); obtain ⟨a0, a1, a2⟩ := HN.out.ext hx7 (fun hk => by have := (HOB.out _ hk).2; omega); have hB7 : Below w.heap.size w w7 := HB1.out.trans (hx7.to_below (by omega) (fun b hb => (HOB.out b hb).1)); rw [← tokCells_snoc pre ⟨kd, t, k⟩] at hown7; have HO7 := Lib.hid hown7; obtain ⟨A', c', rfl, _⟩ := (VRow.of_own hown7).slice; have HB7 := Lib.hid hB7; (have ht6 : t.length ≤ 1000000 := by omega); clear hx7 hg7 hat7 hown7 hB7)
        refine (rskip_calls s (k + t.length) htl hs _).mono ?_
        rintro en w8 ⟨rfl, rfl⟩
        go_wp2_with fail
        refine ⟨⟨pre ++ [⟨kd, t, k⟩], skipAt s (k + t.length), m, hle, rfl, by rw [List.length_append]; exact HO7.out, by simp; omega, HB7.out, by omega, HL⟩, by simp [intOf]; omega⟩
    · obtain rfl : k = s.length := by omega
      have HL : Hid (lex s = .ok pre) := Lib.hid (by
        rw [hg.out, List.drop_length]
        cases m with
        | zero => omega
        | succ m => simp [lexF, LexR.pre])
      have hfin := toks_of_own hown (Nat.le_refl _)
      have HF := Lib.hid hfin
      have HT := Lib.hid (tokT_own hown (.int .i64 0) (.bool true))
      clear hfin hown hg
      go_wp2_with fail
      refine bodyPost_ret (v := .tuple #[.slice A pre.length c, .int .i64 0, .bool true]) (by simp [results, Tryd.results49, go_sem]) rfl ⟨⟨hb, .inr ⟨pre, A, c, HL.out, rfl, HF.out.1, HF.out.2.1, HF.out.2.2⟩⟩, HT.out⟩
set_option maxRecDepth 100000 in
set_option maxHeartbeats 2000000 in
theorem rlex_tok (s : Str) (hs : s.length ≤ 1000000) (w : World) : Calls Tryd.prog 24 #[.string (ba s)] w (fun en w' => LPost s w en w' ∧ TokT en w') := by
  by_cases hl : 20000 < s.length
  · have e1 : decide ((20000 : Int) < (s.length : Int)) = true := by simp; omega
    go_enter Tryd.func24, Tryd.ntmps24
    go_wp2_with fail
    exact bodyPost_ret (v := .tuple #[.slice none 0 0, .int .i64 0, .int .i64 3]) (by simp [results, Tryd.results24, go_sem]) rfl ⟨⟨Below.refl _ _, .inl ⟨hl, rfl⟩⟩, tokT_none _ _ _⟩
  · have e1 : decide ((20000 : Int) < (s.length : Int)) = false := by simp; omega
    go_enter Tryd.func24, Tryd.ntmps24
    go_wp2_with fail
    refine (rall_calls s hs _).mono ?_
    rintro en w1 ⟨⟨hb, (⟨a, hbad, rfl⟩ | ⟨l, A, c, hok, rfl, h1, h2, h3⟩)⟩, hT⟩
    · have HB := Lib.hid hbad
      clear hbad
      go_wp2_with fail
      exact bodyPost_ret (v := .tuple #[.slice none 0 0, .int .i64 a, .int .i64 4]) (by simp [results, Tryd.results24, go_sem]) rfl ⟨⟨hb, .inr ⟨by omega, .inl ⟨a, HB.out, rfl⟩⟩⟩, tokT_none _ _ _⟩
    · have HB := Lib.hid hok
      have H3 := Lib.hid h3
      have HT : Hid (∀ a b, TokT (.returned (.tuple #[.slice A l.length c, a, b])) w1) := Lib.hid fun a b A' n' c' a' k' he => hT A' n' c' (.int .i64 0) (.bool true) (by injection he with he; injection he with he; have h0 := congrArg (fun v : Array Value => v[0]?) he; simp at h0; rw [h0.1, h0.2.1, h0.2.2])
      clear hok h3 hT
      go_wp2_with fail
      exact bodyPost_ret (v := .tuple #[.slice A l.length c, .int .i64 0, .int .i64 0]) (by simp [results, Tryd.results24, go_sem]) rfl ⟨⟨hb, .inr ⟨by omega, .inr ⟨l, A, c, HB.out, rfl, h1, h2, H3.out⟩⟩⟩, HT.out _ _⟩
theorem rlex_calls (s : Str) (hs : s.length ≤ 1000000) (w : World) : Calls Tryd.prog 24 #[.string (ba s)] w (LPost s w) := (rlex_tok s hs w).mono fun _ _ h => h.1
theorem short_calls (s : Str) (hs : s.length ≤ 9223372036854775807) (w : World) : Calls Tryd.prog 13 #[.string (ba s)] w fun r w' => r = .returned (.string (ba (s.take 20001))) ∧ w = w' := by
  have hx : (ba s).extract 0 (min (s.length : Int) 20001).toNat = ba (s.take 20001) := by
    rw [ba_to]
    congr 1
    rw [show (min (s.length : Int) 20001).toNat = min s.length 20001 from by omega]
    rcases Nat.le_total s.length 20001 with h | h
    · rw [Nat.min_eq_left h, List.take_length, List.take_of_length_le h]
    · rw [Nat.min_eq_right h]
  have HX := Lib.hid hx
  clear hx
  go_enter Tryd.func13, Tryd.ntmps13
  go_wp2_with fail
  go_ret
  exact ⟨congrArg (fun b => Ending.returned (.string b)) HX.out, rfl⟩
end Go.Proofs.YtdijffojppjmfaaDoor
