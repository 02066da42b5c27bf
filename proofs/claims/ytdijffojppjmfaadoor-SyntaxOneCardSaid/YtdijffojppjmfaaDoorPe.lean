/- The parser's arguments and operators of two sides, walked: args, binary. -/
import Derived.Test.YtdijffojppjmfaaDoorPc
import Derived.Deep.LoopGhost
set_option linter.unusedVariables false
namespace Go.Proofs.YtdijffojppjmfaaDoor
open Go.RowKit Bir Go.BW
theorem infoE : (Tryd.prog.info? 36).map (fun i => (i.zero, i.size, i.bytes)) = some (some (.agg #[.int .i64 0, .int .i64 0, .string ⟨#[]⟩, .slice none 0 0]), 4, 56) := by kernel_rfl

section
variable {w : World} {pb tb e n : Nat} {l : List Tok}
set_option maxHeartbeats 2000000 in
theorem args_step (hn9 : n ≤ 1000000000) (ih : ∀ m, m < n → PAll m) (h : PSt w pb tb e l) (hp : is [40] l = true) (hne : (gram n).args [] l.tail ≠ .out) : Calls Tryd.prog 132 #[pp pb] w (APost w pb tb e ((gram n).args [] l.tail)) := by
  have hpb := h.pb_lt
  have htb := h.tb_lt
  generalize hr : (gram n).args [] l.tail = r at hne ⊢
  have HR := Lib.hid hr
  have HI := Lib.hid ih
  have HN := Lib.hid hne
  clear ih hne hr
  go_enter Tryd.func132, Tryd.ntmps132
  go_wp2_with fail
  refine (must_yes h [40] hp).mono ?_
  rintro en w1 ⟨rfl, hx1, h1⟩
  clear hp h
  go_wp2_with fail
  go_loopg [3] n (fun gk v wr => ∃ xs l', EAcc 36 wr w.heap.size v xs ∧ PSt wr pb tb e l' ∧ Ext (· = pb) w wr ∧ Hid ((gram gk).args xs l' = r) ∧ xs.length + gk ≤ n)
  case atStart => exact ⟨[], l.tail, EAcc.nil _ _ _, h1, hx1, HR, by simp⟩
  case round =>
    obtain ⟨xs, l', hacc, hst, hx, hg, hlen⟩ := hrel
    clear hx1 h1
    cases gk with
    | zero => exact absurd hg.out.symm HN.out
    | succ m =>
      have hgm : argsF (gram m) xs l' = r := hg.out
      obtain ⟨A, c, rfl⟩ := hacc.slice
      cases hc : is [41] l' with
      | true =>
        have HGM : Hid (r = .ok xs l'.tail) := by rw [← hgm]; simp [argsF, hc, Hid]
        have HACC := Lib.hid hacc
        have HX := Lib.hid hx
        clear hgm hg hacc hx
        go_wp2_with fail
        refine (is_calls hst [41]).mono ?_
        rw [hc]
        rintro en w2 ⟨rfl, hb2⟩
        go_wp2_with fail
        refine (must_yes (hst.below hb2) [41] hc).mono ?_
        rintro en w3 ⟨rfl, hx3, h3⟩
        have HX3 := Lib.hid hx3
        have H3 := Lib.hid h3
        clear hx3 h3
        go_wp2_with fail
        go_ret
        rw [HGM.out]
        have hx23 := (Ext.of_below hb2 (· = pb)).trans' HX3.out
        exact ⟨_, rfl, (HACC.out.row).ext hx23 (fun b hb => by omega) (Nat.le_refl _), HX.out.trans' hx23, H3.out⟩
      | false =>
        have hgm2 : ((if xs.length = 0 then R.ok () l' else must [44] l').bind fun _ l1 => (if begins l1 then few xs.length 8 l1 else R.ok () l1).bind fun _ l2 => ((gram m).expr l2).bind fun x l3 => (gram m).args (xs ++ [x]) l3) = r := by
          rw [← hgm]; simp only [argsF, hc, Bool.false_eq_true, if_false]
        have HACC := Lib.hid hacc
        have HX := Lib.hid hx
        have HG := Lib.hid hgm2
        clear hgm hg hgm2 hacc hx
        go_wp2_with fail
        refine (is_calls hst [41]).mono ?_
        rw [hc]
        rintro en w2 ⟨rfl, hb2⟩
        have hst2 := hst.below hb2
        have HX2 := Lib.hid (HX.out.below hb2)
        have HACC2 := Lib.hid (HACC.out.ext (Ext.of_below hb2 (fun _ => False)) (fun _ h => h.elim))
        clear HX HACC hb2 hst hc
        by_cases hx0 : xs.length = 0
        · have e0 : decide (0 < xs.length) = false := decide_eq_false (by omega)
          obtain ⟨wq, hwq⟩ : ∃ wq, w2 = wq := ⟨_, rfl⟩
          obtain ⟨l1, hl1⟩ : ∃ l1, l' = l1 := ⟨_, rfl⟩
          subst hwq hl1
          have HQ : Hid (((if begins l' then few xs.length 8 l' else R.ok () l').bind fun _ l2 => ((gram m).expr l2).bind fun x l3 => (gram m).args (xs ++ [x]) l3) = r) := by
            have := HG.out
            rw [if_pos hx0] at this
            exact this
          clear HG hx0
          go_wp2_with fail
          cases hbg : Bir.begins l' with
          | true =>
            refine (begins_calls hst2).mono ?_
            rw [hbg]
            rintro en w4 ⟨rfl, hb4⟩
            have hst4 := hst2.below hb4
            have HX4 := Lib.hid (HX2.out.below hb4)
            have HACC4 := Lib.hid (HACC2.out.ext (Ext.of_below hb4 (fun _ => False)) (fun _ h => h.elim))
            clear HX2 HACC2 hst2 hb4
            go_wp2_with fail
            by_cases h8 : xs.length < 8
            · refine (few_ok hst4 (xs.length : Int) 8 (by omega)).mono ?_
              rintro en w5 ⟨rfl, rfl⟩
              have HQ5 : Hid ((((gram m).expr l').bind fun x l3 => (gram m).args (xs ++ [x]) l3) = r) := by
                have := HQ.out
                rw [if_pos hbg, show few xs.length 8 l' = .ok () l' from by simp only [few]; rw [if_neg (by omega)]] at this
                exact this
              clear HQ hbg
              rcases hy : (gram m).expr l' with _ | ⟨l3, k⟩ | ⟨x, l3⟩
              · exact absurd (by rw [← HQ5.out, hy]; rfl) HN.out
              · have HF : Hid (r = .err l3 k) := by
                  rw [← HQ5.out, hy]
                  rfl
                have HY := Lib.hid hy
                clear hy HQ5
                go_wp2_with fail
                refine (EPost.bad ((HI.out m (by omega)).expr hst4 (by rw [HY.out]; simp)) HY.out).mono ?_
                rintro en w6 ⟨rfl, hx6⟩
                exact ⟨rfl, by rw [HF.out]; exact ⟨rfl, HX4.out.trans' hx6⟩⟩
              · have HF : Hid ((gram m).args (xs ++ [x]) l3 = r) := by
                  have := HQ5.out
                  rw [hy] at this
                  exact this
                have HY := Lib.hid hy
                clear hy HQ5
                go_wp2_with fail
                refine (EPost.got ((HI.out m (by omega)).expr hst4 (by rw [HY.out]; simp)) HY.out).mono ?_
                rintro en w6 ⟨kv, rfl, hr6, hx6, h6⟩
                obtain ⟨A6, c6, rfl, _⟩ := hr6.slice
                have hacc6 := HACC4.out.ext hx6 (fun b hb => by omega)
                have hblk := HACC4.out.block
                have hsz := HX4.out.size
                have hsz6 := hx6.size
                obtain ⟨cs, hown, hcs⟩ := hacc6
                have HR6 : Hid (ERow w6 (fun b => w.heap.size ≤ b ∧ some b ≠ (Value.slice A xs.length c).ownBlock) (.slice A6 x.kids.length c6) x.kids) := hr6.apart hsz (fun k hk => (hblk k hk).2)
                have hblk6 : ∀ k, (Value.slice A xs.length c).ownBlock = some k → w.heap.size ≤ k := fun k hk => (hblk k hk).1
                have HB6 := Lib.hid hblk6
                have HX6 := Lib.hid (HX4.out.trans' hx6)
                have H6 := Lib.hid h6
                have HCS := Lib.hid hcs
                have HOWN := Lib.hid hown
                clear hr6 hx6 h6 hcs hown hblk hblk6 HX4 HACC4 hst4
                go_wp2_with (at_builtin; refine append_one w6 w.heap.size rfl _ _ 34 36 _ 4 56 rfl Tryd.underlying34 infoE rfl (by decide) (by decide) (.slice A xs.length c) xs.length cs [.int .i64 x.kind, .int .i64 x.num, .string (ba x.name), .slice A6 x.kids.length c6] rfl rfl rfl (by simp [Value.oneCell']) HOWN.out (by omega) (by omega) ?_; intro v1 w7 hown7 hg7 hat7)
                have hacc7 := EAcc.grow HCS.out HR6.out hown7 hg7 hat7
                have hx7 : Ext (fun b => (Value.slice A xs.length c).ownBlock = some b) w6 w7 := (Ext.refl _ w6).grown hg7 (fun k hk => .inl hk)
                have hX7 : Ext (· = pb) w w7 := HX6.out.trans hx7 (fun i hi => .inr (HB6.out i hi))
                have h7 := H6.out.ext hx7 (fun hk => by have := HB6.out pb hk; omega) (fun hk => by have := HB6.out tb hk; omega) (fun k hk => by have := HB6.out k hk; omega)
                have HA7 := Lib.hid hacc7
                clear hg7 hat7 hown7 hx7 hacc7
                obtain ⟨A7, c7, rfl⟩ := HA7.out.slice
                go_wp2_with fail
                go_roundg m
                case measure => omega
                case rel => exact ⟨xs ++ [x], l3, HA7.out, h7, hX7, HF, by simp; omega⟩
            · refine (few_no hst4 (xs.length : Int) 8 (by omega)).mono ?_
              rintro en w5 ⟨rfl, hb5⟩
              have HF : Hid (r = .err (l') 3) := by
                have := HQ.out
                rw [if_pos hbg, show few xs.length 8 l' = .err (l') 3 from by simp only [few]; rw [if_pos (by omega)]] at this
                exact this.symm
              exact ⟨rfl, by rw [HF.out]; exact ⟨rfl, HX4.out.below hb5⟩⟩
          | false =>
            refine (begins_calls hst2).mono ?_
            rw [hbg]
            rintro en w4 ⟨rfl, hb4⟩
            have hst4 := hst2.below hb4
            have HX4 := Lib.hid (HX2.out.below hb4)
            have HACC4 := Lib.hid (HACC2.out.ext (Ext.of_below hb4 (fun _ => False)) (fun _ h => h.elim))
            have HQ5 : Hid ((((gram m).expr l').bind fun x l3 => (gram m).args (xs ++ [x]) l3) = r) := by
              have := HQ.out
              rw [if_neg (by rw [hbg]; simp)] at this
              exact this
            clear HQ hbg HX2 HACC2 hst2 hb4
            go_wp2_with fail
            rcases hy : (gram m).expr l' with _ | ⟨l3, k⟩ | ⟨x, l3⟩
            · exact absurd (by rw [← HQ5.out, hy]; rfl) HN.out
            · have HF : Hid (r = .err l3 k) := by
                rw [← HQ5.out, hy]
                rfl
              have HY := Lib.hid hy
              clear hy HQ5
              go_wp2_with fail
              refine (EPost.bad ((HI.out m (by omega)).expr hst4 (by rw [HY.out]; simp)) HY.out).mono ?_
              rintro en w6 ⟨rfl, hx6⟩
              exact ⟨rfl, by rw [HF.out]; exact ⟨rfl, HX4.out.trans' hx6⟩⟩
            · have HF : Hid ((gram m).args (xs ++ [x]) l3 = r) := by
                have := HQ5.out
                rw [hy] at this
                exact this
              have HY := Lib.hid hy
              clear hy HQ5
              go_wp2_with fail
              refine (EPost.got ((HI.out m (by omega)).expr hst4 (by rw [HY.out]; simp)) HY.out).mono ?_
              rintro en w6 ⟨kv, rfl, hr6, hx6, h6⟩
              obtain ⟨A6, c6, rfl, _⟩ := hr6.slice
              have hacc6 := HACC4.out.ext hx6 (fun b hb => by omega)
              have hblk := HACC4.out.block
              have hsz := HX4.out.size
              have hsz6 := hx6.size
              obtain ⟨cs, hown, hcs⟩ := hacc6
              have HR6 : Hid (ERow w6 (fun b => w.heap.size ≤ b ∧ some b ≠ (Value.slice A xs.length c).ownBlock) (.slice A6 x.kids.length c6) x.kids) := hr6.apart hsz (fun k hk => (hblk k hk).2)
              have hblk6 : ∀ k, (Value.slice A xs.length c).ownBlock = some k → w.heap.size ≤ k := fun k hk => (hblk k hk).1
              have HB6 := Lib.hid hblk6
              have HX6 := Lib.hid (HX4.out.trans' hx6)
              have H6 := Lib.hid h6
              have HCS := Lib.hid hcs
              have HOWN := Lib.hid hown
              clear hr6 hx6 h6 hcs hown hblk hblk6 HX4 HACC4 hst4
              go_wp2_with (at_builtin; refine append_one w6 w.heap.size rfl _ _ 34 36 _ 4 56 rfl Tryd.underlying34 infoE rfl (by decide) (by decide) (.slice A xs.length c) xs.length cs [.int .i64 x.kind, .int .i64 x.num, .string (ba x.name), .slice A6 x.kids.length c6] rfl rfl rfl (by simp [Value.oneCell']) HOWN.out (by omega) (by omega) ?_; intro v1 w7 hown7 hg7 hat7)
              have hacc7 := EAcc.grow HCS.out HR6.out hown7 hg7 hat7
              have hx7 : Ext (fun b => (Value.slice A xs.length c).ownBlock = some b) w6 w7 := (Ext.refl _ w6).grown hg7 (fun k hk => .inl hk)
              have hX7 : Ext (· = pb) w w7 := HX6.out.trans hx7 (fun i hi => .inr (HB6.out i hi))
              have h7 := H6.out.ext hx7 (fun hk => by have := HB6.out pb hk; omega) (fun hk => by have := HB6.out tb hk; omega) (fun k hk => by have := HB6.out k hk; omega)
              have HA7 := Lib.hid hacc7
              clear hg7 hat7 hown7 hx7 hacc7
              obtain ⟨A7, c7, rfl⟩ := HA7.out.slice
              go_wp2_with fail
              go_roundg m
              case measure => omega
              case rel => exact ⟨xs ++ [x], l3, HA7.out, h7, hX7, HF, by simp; omega⟩
        · have e0 : decide (0 < xs.length) = true := decide_eq_true (by omega)
          cases hk : is [44] l' with
          | false =>
            have HF : Hid (r = .err l' 4) := by
              have := HG.out
              rw [if_neg hx0] at this
              rw [← this]
              simp [must, hk, R.bind, Hid]
            clear hx0 HG
            go_wp2_with fail
            refine (must_no hst2 [44] hk).mono ?_
            rintro en w3 ⟨rfl, hb3⟩
            exact ⟨rfl, by rw [HF.out]; exact ⟨rfl, HX2.out.below hb3⟩⟩
          | true =>
            have HQ0 : Hid (((if begins l'.tail then few xs.length 8 l'.tail else R.ok () l'.tail).bind fun _ l2 => ((gram m).expr l2).bind fun x l3 => (gram m).args (xs ++ [x]) l3) = r) := by
              have := HG.out
              rw [if_neg hx0] at this
              rw [show must [44] l' = .ok () l'.tail from by simp [must, hk]] at this
              exact this
            clear hx0 HG
            go_wp2_with fail
            refine (must_yes hst2 [44] hk).mono ?_
            rintro en w3 ⟨rfl, hx3, hst3⟩
            have HX3 := Lib.hid (HX2.out.trans' hx3)
            have HACC3 := Lib.hid (HACC2.out.ext hx3 (fun b hb => by omega))
            clear HX2 HACC2 hx3 hst2
            go_wp2_with fail
            cases hbg : Bir.begins l'.tail with
            | true =>
              refine (begins_calls hst3).mono ?_
              rw [hbg]
              rintro en w4 ⟨rfl, hb4⟩
              have hst4 := hst3.below hb4
              have HX4 := Lib.hid (HX3.out.below hb4)
              have HACC4 := Lib.hid (HACC3.out.ext (Ext.of_below hb4 (fun _ => False)) (fun _ h => h.elim))
              clear HX3 HACC3 hst3 hb4
              go_wp2_with fail
              by_cases h8 : xs.length < 8
              · refine (few_ok hst4 (xs.length : Int) 8 (by omega)).mono ?_
                rintro en w5 ⟨rfl, rfl⟩
                have HQ5 : Hid ((((gram m).expr l'.tail).bind fun x l3 => (gram m).args (xs ++ [x]) l3) = r) := by
                  have := HQ0.out
                  rw [if_pos hbg, show few xs.length 8 l'.tail = .ok () l'.tail from by simp only [few]; rw [if_neg (by omega)]] at this
                  exact this
                clear HQ0 hbg
                rcases hy : (gram m).expr l'.tail with _ | ⟨l3, k⟩ | ⟨x, l3⟩
                · exact absurd (by rw [← HQ5.out, hy]; rfl) HN.out
                · have HF : Hid (r = .err l3 k) := by
                    rw [← HQ5.out, hy]
                    rfl
                  have HY := Lib.hid hy
                  clear hy HQ5
                  go_wp2_with fail
                  refine (EPost.bad ((HI.out m (by omega)).expr hst4 (by rw [HY.out]; simp)) HY.out).mono ?_
                  rintro en w6 ⟨rfl, hx6⟩
                  exact ⟨rfl, by rw [HF.out]; exact ⟨rfl, HX4.out.trans' hx6⟩⟩
                · have HF : Hid ((gram m).args (xs ++ [x]) l3 = r) := by
                    have := HQ5.out
                    rw [hy] at this
                    exact this
                  have HY := Lib.hid hy
                  clear hy HQ5
                  go_wp2_with fail
                  refine (EPost.got ((HI.out m (by omega)).expr hst4 (by rw [HY.out]; simp)) HY.out).mono ?_
                  rintro en w6 ⟨kv, rfl, hr6, hx6, h6⟩
                  obtain ⟨A6, c6, rfl, _⟩ := hr6.slice
                  have hacc6 := HACC4.out.ext hx6 (fun b hb => by omega)
                  have hblk := HACC4.out.block
                  have hsz := HX4.out.size
                  have hsz6 := hx6.size
                  obtain ⟨cs, hown, hcs⟩ := hacc6
                  have HR6 : Hid (ERow w6 (fun b => w.heap.size ≤ b ∧ some b ≠ (Value.slice A xs.length c).ownBlock) (.slice A6 x.kids.length c6) x.kids) := hr6.apart hsz (fun k hk => (hblk k hk).2)
                  have hblk6 : ∀ k, (Value.slice A xs.length c).ownBlock = some k → w.heap.size ≤ k := fun k hk => (hblk k hk).1
                  have HB6 := Lib.hid hblk6
                  have HX6 := Lib.hid (HX4.out.trans' hx6)
                  have H6 := Lib.hid h6
                  have HCS := Lib.hid hcs
                  have HOWN := Lib.hid hown
                  clear hr6 hx6 h6 hcs hown hblk hblk6 HX4 HACC4 hst4
                  go_wp2_with (at_builtin; refine append_one w6 w.heap.size rfl _ _ 34 36 _ 4 56 rfl Tryd.underlying34 infoE rfl (by decide) (by decide) (.slice A xs.length c) xs.length cs [.int .i64 x.kind, .int .i64 x.num, .string (ba x.name), .slice A6 x.kids.length c6] rfl rfl rfl (by simp [Value.oneCell']) HOWN.out (by omega) (by omega) ?_; intro v1 w7 hown7 hg7 hat7)
                  have hacc7 := EAcc.grow HCS.out HR6.out hown7 hg7 hat7
                  have hx7 : Ext (fun b => (Value.slice A xs.length c).ownBlock = some b) w6 w7 := (Ext.refl _ w6).grown hg7 (fun k hk => .inl hk)
                  have hX7 : Ext (· = pb) w w7 := HX6.out.trans hx7 (fun i hi => .inr (HB6.out i hi))
                  have h7 := H6.out.ext hx7 (fun hk => by have := HB6.out pb hk; omega) (fun hk => by have := HB6.out tb hk; omega) (fun k hk => by have := HB6.out k hk; omega)
                  have HA7 := Lib.hid hacc7
                  clear hg7 hat7 hown7 hx7 hacc7
                  obtain ⟨A7, c7, rfl⟩ := HA7.out.slice
                  go_wp2_with fail
                  go_roundg m
                  case measure => omega
                  case rel => exact ⟨xs ++ [x], l3, HA7.out, h7, hX7, HF, by simp; omega⟩
              · refine (few_no hst4 (xs.length : Int) 8 (by omega)).mono ?_
                rintro en w5 ⟨rfl, hb5⟩
                have HF : Hid (r = .err (l'.tail) 3) := by
                  have := HQ0.out
                  rw [if_pos hbg, show few xs.length 8 l'.tail = .err (l'.tail) 3 from by simp only [few]; rw [if_pos (by omega)]] at this
                  exact this.symm
                exact ⟨rfl, by rw [HF.out]; exact ⟨rfl, HX4.out.below hb5⟩⟩
            | false =>
              refine (begins_calls hst3).mono ?_
              rw [hbg]
              rintro en w4 ⟨rfl, hb4⟩
              have hst4 := hst3.below hb4
              have HX4 := Lib.hid (HX3.out.below hb4)
              have HACC4 := Lib.hid (HACC3.out.ext (Ext.of_below hb4 (fun _ => False)) (fun _ h => h.elim))
              have HQ5 : Hid ((((gram m).expr l'.tail).bind fun x l3 => (gram m).args (xs ++ [x]) l3) = r) := by
                have := HQ0.out
                rw [if_neg (by rw [hbg]; simp)] at this
                exact this
              clear HQ0 hbg HX3 HACC3 hst3 hb4
              go_wp2_with fail
              rcases hy : (gram m).expr l'.tail with _ | ⟨l3, k⟩ | ⟨x, l3⟩
              · exact absurd (by rw [← HQ5.out, hy]; rfl) HN.out
              · have HF : Hid (r = .err l3 k) := by
                  rw [← HQ5.out, hy]
                  rfl
                have HY := Lib.hid hy
                clear hy HQ5
                go_wp2_with fail
                refine (EPost.bad ((HI.out m (by omega)).expr hst4 (by rw [HY.out]; simp)) HY.out).mono ?_
                rintro en w6 ⟨rfl, hx6⟩
                exact ⟨rfl, by rw [HF.out]; exact ⟨rfl, HX4.out.trans' hx6⟩⟩
              · have HF : Hid ((gram m).args (xs ++ [x]) l3 = r) := by
                  have := HQ5.out
                  rw [hy] at this
                  exact this
                have HY := Lib.hid hy
                clear hy HQ5
                go_wp2_with fail
                refine (EPost.got ((HI.out m (by omega)).expr hst4 (by rw [HY.out]; simp)) HY.out).mono ?_
                rintro en w6 ⟨kv, rfl, hr6, hx6, h6⟩
                obtain ⟨A6, c6, rfl, _⟩ := hr6.slice
                have hacc6 := HACC4.out.ext hx6 (fun b hb => by omega)
                have hblk := HACC4.out.block
                have hsz := HX4.out.size
                have hsz6 := hx6.size
                obtain ⟨cs, hown, hcs⟩ := hacc6
                have HR6 : Hid (ERow w6 (fun b => w.heap.size ≤ b ∧ some b ≠ (Value.slice A xs.length c).ownBlock) (.slice A6 x.kids.length c6) x.kids) := hr6.apart hsz (fun k hk => (hblk k hk).2)
                have hblk6 : ∀ k, (Value.slice A xs.length c).ownBlock = some k → w.heap.size ≤ k := fun k hk => (hblk k hk).1
                have HB6 := Lib.hid hblk6
                have HX6 := Lib.hid (HX4.out.trans' hx6)
                have H6 := Lib.hid h6
                have HCS := Lib.hid hcs
                have HOWN := Lib.hid hown
                clear hr6 hx6 h6 hcs hown hblk hblk6 HX4 HACC4 hst4
                go_wp2_with (at_builtin; refine append_one w6 w.heap.size rfl _ _ 34 36 _ 4 56 rfl Tryd.underlying34 infoE rfl (by decide) (by decide) (.slice A xs.length c) xs.length cs [.int .i64 x.kind, .int .i64 x.num, .string (ba x.name), .slice A6 x.kids.length c6] rfl rfl rfl (by simp [Value.oneCell']) HOWN.out (by omega) (by omega) ?_; intro v1 w7 hown7 hg7 hat7)
                have hacc7 := EAcc.grow HCS.out HR6.out hown7 hg7 hat7
                have hx7 : Ext (fun b => (Value.slice A xs.length c).ownBlock = some b) w6 w7 := (Ext.refl _ w6).grown hg7 (fun k hk => .inl hk)
                have hX7 : Ext (· = pb) w w7 := HX6.out.trans hx7 (fun i hi => .inr (HB6.out i hi))
                have h7 := H6.out.ext hx7 (fun hk => by have := HB6.out pb hk; omega) (fun hk => by have := HB6.out tb hk; omega) (fun k hk => by have := HB6.out k hk; omega)
                have HA7 := Lib.hid hacc7
                clear hg7 hat7 hown7 hx7 hacc7
                obtain ⟨A7, c7, rfl⟩ := HA7.out.slice
                go_wp2_with fail
                go_roundg m
                case measure => omega
                case rel => exact ⟨xs ++ [x], l3, HA7.out, h7, hX7, HF, by simp; omega⟩
end
end Go.Proofs.YtdijffojppjmfaaDoor
