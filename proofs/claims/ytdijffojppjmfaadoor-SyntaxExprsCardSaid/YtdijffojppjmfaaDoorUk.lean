/- The reference's reader: all of its expressions; plain, block (printed by gstm.py). The reference's reader: ifs, stmt (printed by gstm.py). The reference's reader: function, program (printed by gprogr.py). The reference's reader: program (printed by gprogr.py). -/
import Derived.Test.YtdijffojppjmfaaDoorUf
import Derived.Test.YtdijffojppjmfaaDoorPu
import Derived.Test.YtdijffojppjmfaaDoorQe
set_option linter.unusedVariables false
set_option linter.unusedSimpArgs false
namespace Go.Proofs.YtdijffojppjmfaaDoor
open Go.RowKit Bir Go.BW
theorem rall : ∀ n, n ≤ 1000000000 → RAll n := by
  intro n
  induction n using Nat.strongRecOn with
  | _ n ih =>
    intro hn
    have iha : ∀ m, m < n → RAll m := fun m hm => ih m hm (by omega)
    refine ⟨fun {w rb tb e T s p} h hp => ?_, fun {w rb tb e T s p} lvl v hv h1 h2 h hp => ?_, fun {w rb tb e T s p} h hp => ?_, fun {w rb tb e T s p} h hp => rargs_step hn iha h hp⟩
    · cases n with
      | zero => exact absurd hp (by simp [rd])
      | succ m => exact rexpr_step (iha m (by omega)) h hp
    · cases n with
      | zero => exact absurd hp (by simp [rd])
      | succ m =>
        by_cases h10 : lvl ≤ 10
        · exact rbin_loop (by omega) (fun k hk => iha k (by omega)) h lvl v hv h1 h10 hp
        · replace hp : rBin (rd T e m) lvl s = some p := hp
          unfold rBin at hp
          rw [if_pos (by omega)] at hp
          exact rbin_top (iha m (by omega)) h v (by omega) hp
    · cases n with
      | zero => exact absurd hp (by simp [rd])
      | succ m => exact rU_step (iha m (by omega)) h hp
/-- What the methods do on statements, where the plain ones come to an end in n steps. -/
structure SAll (n : Nat) : Prop where
  stmt : ∀ {w : World} {rb tb e : Nat} {T : List Tok} {s : RS} {p : St × RS}, RM w rb tb e T s → (rd T e n).stmt s = some p → Calls Tryd.prog 131 #[pp rb] w (RPost SVal w rb tb e T p)
  block : ∀ {w : World} {rb tb e : Nat} {T : List Tok} {s : RS} {p : List St × RS}, RM w rb tb e T s → rBlock T e (rd T e n) s = some p → Calls Tryd.prog 112 #[pp rb] w (RPost SRow w rb tb e T p)
  ifs : ∀ {w : World} {rb tb e : Nat} {T : List Tok} {s : RS} {p : St × RS}, RM w rb tb e T s → (rd T e n).ifs s = some p → Calls Tryd.prog 157 #[pp rb] w (RPost SVal w rb tb e T p)
section
variable {w : World} {rb tb e n : Nat} {T : List Tok} {s : RS}
set_option maxHeartbeats 8000000 in
set_option maxRecDepth 100000 in
theorem rplain_step {p : St × RS} (ih : RAll n) (h : RM w rb tb e T s) (k : Int) (hp : rPlain T e (rd T e n) k s = some p) : Calls Tryd.prog 158 #[pp rb, .int .i64 k] w (RPost SVal w rb tb e T p) := by
  unfold rPlain at hp
  obtain ⟨⟨x, s1⟩, h1, hp⟩ := ob hp
  obtain rfl : (St.mk k [] [x] [] [], s1.must T e [59]) = p := by injection hp
  have HI := Lib.hid ih
  have H1 := Lib.hid h1
  clear h1
  have HF := Lib.hid (RF.start h)
  replace HF := Lib.hid (HF.out.make [.int .i64 0, .string ⟨#[]⟩, .slice none 0 0, .slice none 0 0, .slice none 0 0] 98 (by decide))
  (try simp only [World.size_alloc] at HF)
  clear h ih hp
  go_enter Tryd.func158, Tryd.ntmps158
  go_wp2_with fail
  refine (HI.out.expr HF.out.st H1.out).mono ?_
  rintro en w1 ⟨v, rfl, ⟨kv, rfl, hr⟩, hx, hm⟩
  replace HF := Lib.hid (HF.out.callE hx hm hr)
  obtain ⟨A1, c1, rfl, _⟩ := hr.slice
  clear hx hm hr
  replace HF := Lib.hid (HF.out.row1 (x := x) (HF.out.getE 0 rfl))
  (try simp only [World.size_alloc] at HF)
  replace HF := Lib.hid (HF.out.make [.int .i64 k, .string ⟨#[]⟩, .slice (some ⟨w1.heap.size, 0, none⟩) 1 1, .slice none 0 0, .slice none 0 0] 98 (by decide))
  (try simp only [World.size_alloc] at HF)
  go_wp2_with fail
  refine (rmust_calls HF.out.st [59]).mono ?_
  rintro en w0 ⟨rfl, hx, hm⟩
  replace HF := Lib.hid (HF.out.call hx hm)
  clear hx hm
  obtain ⟨⟨m0, m1, m2, m3, m4⟩, mf, ml, mn⟩ := HF.out.c5 0 rfl
  obtain ⟨⟨r0, r1, r2, r3, r4⟩, rf, rl, rn⟩ := HF.out.c5 3 rfl
  go_wp2_with fail
  exact rf_endS rfl HF.out 3 rfl rfl fun W h => ⟨_, rfl, ⟨_, _, _, rfl, h.outE 1 rfl, .nil none 0, .nil none 0⟩, h.rx, h.st⟩
set_option maxHeartbeats 8000000 in
set_option maxRecDepth 100000 in
theorem rblock_step {p : List St × RS} (hn9 : n ≤ 1000000000) (ih : ∀ m, m < n → SAll m) (h : RM w rb tb e T s) (hp : rBlock T e (rd T e n) s = some p) : Calls Tryd.prog 112 #[pp rb] w (RPost SRow w rb tb e T p) := by
  unfold rBlock at hp
  have HP := Lib.hid hp
  have HI := Lib.hid ih
  have HF0 := Lib.hid (RF.start h)
  clear ih hp h
  go_enter Tryd.func112, Tryd.ntmps112
  go_wp2_with fail
  refine (rmust_calls HF0.out.st [123]).mono ?_
  rintro en w1 ⟨rfl, hx, hm⟩
  replace HF0 := Lib.hid (HF0.out.call hx hm)
  clear hx hm
  go_wp2_with fail
  go_loopg [3] n (fun gk v wr => ∃ xs s', RF w wr rb tb e T s' [.accS v xs] ∧ Hid ((rd T e gk).stmts xs s' = some p) ∧ xs.length + gk ≤ n)
  case atStart => exact ⟨[], _, HF0.out.acc0S, HP, by simp⟩
  case round =>
    obtain ⟨xs, s', hrf, hg, hlen⟩ := hrel
    clear HF0 HP
    cases gk with
    | zero => exact absurd hg.out (by simp [rd])
    | succ m =>
      have hgm : rStmts T e (rd T e m) xs s' = some p := hg.out
      have HF := Lib.hid hrf
      have hrbl := hrf.st.rb_lt
      obtain ⟨A0, c0, v0, ⟨q0, q1, q2, q3, q4, q5⟩, _⟩ := hrf.st.cells
      obtain ⟨A, c, rfl, _⟩ := SRow.slice (hrf.rowOfS 0 rfl)
      clear hg hrf q0 q1 q2 q4 q5
      unfold rStmts at hgm
      by_cases hk : s'.k = 0
      · rw [hk] at q3
        cases h125 : Bir.is [125] (s'.next T) with
        | true =>
          rw [if_neg (fun hh => by rw [h125] at hh; cases hh.2)] at hgm
          obtain rfl : (xs, s'.must T e [125]) = p := by injection hgm
          clear hgm hk
          go_wp2_with fail
          refine (ris_calls HF.out.st [125]).mono ?_
          rw [h125]
          rintro en w2 ⟨rfl, hb⟩
          replace HF := Lib.hid (HF.out.below hb)
          clear hb h125
          go_wp2_with fail
          refine (rmust_calls HF.out.st [125]).mono ?_
          rintro en w3 ⟨rfl, hx, hm⟩
          replace HF := Lib.hid (HF.out.call hx hm)
          clear hx hm
          go_wp2_with fail
          go_ret
          exact ⟨_, rfl, HF.out.rowOfS 0 rfl, HF.out.rx, HF.out.st⟩
        | false =>
          rw [if_pos ⟨hk, h125⟩] at hgm
          obtain ⟨⟨x, s3⟩, h3, hgm⟩ := ob hgm
          have HG := Lib.hid hgm
          have H3 := Lib.hid h3
          clear hgm h3 hk
          go_wp2_with fail
          refine (ris_calls HF.out.st [125]).mono ?_
          rw [h125]
          rintro en w2 ⟨rfl, hb⟩
          replace HF := Lib.hid (HF.out.below hb)
          clear hb h125
          go_wp2_with fail
          refine ((HI.out m (by omega)).stmt HF.out.st H3.out).mono ?_
          rintro en w5 ⟨v, rfl, ⟨ev, bv, lv, rfl, hr1, hr2, hr3⟩, hx, hm⟩
          replace HF := Lib.hid (HF.out.callS hx hm hr1 hr2 hr3)
          obtain ⟨A5, c5, rfl, _⟩ := hr1.slice
          obtain ⟨B5, d5, rfl, _⟩ := SRow.slice hr2
          obtain ⟨C5, f5, rfl, _⟩ := SRow.slice hr3
          obtain ⟨cs, ho, hc⟩ := HF.out.accS 3 rfl
          have hsz := HF.out.size
          have HO := Lib.hid ho
          have HC := Lib.hid hc
          clear hx hm hr1 hr2 hr3 ho hc
          go_wp2_with (at_builtin; refine append_one w5 w.heap.size rfl _ _ 74 98 _ 5 96 rfl Tryd.underlying74 infoS rfl (by decide) (by decide) (.slice A xs.length c) xs.length cs [.int .i64 x.kind, .string (ba x.name), .slice A5 x.exprs.length c5, .slice B5 x.body.length d5, .slice C5 x.els.length f5] rfl rfl rfl (by simp [Value.oneCell']) HO.out hsz (by omega) ?_; intro v1 w7 hown7 hg7 hat7; replace HF := Lib.hid (HF.out.appS 3 rfl HC.out (HF.out.getE 0 rfl) (HF.out.getB 1 rfl) (HF.out.getB 2 rfl) hown7 hg7 hat7); clear hown7 hg7 hat7)
          go_roundg m
          case measure => omega
          case rel => exact ⟨xs ++ [x], s3, HF.out.drop (.cons _ (.cons _ (.cons _ (.cons_cons _ .slnil)))), HG, by simp; omega⟩
      · have e0 : ((s'.k : Int) == 0) = false := beq_eq_false_iff_ne.2 (by omega)
        rw [if_neg (fun hh => hk hh.1)] at hgm
        obtain rfl : (xs, s'.must T e [125]) = p := by injection hgm
        clear hgm hk
        go_wp2_with fail
        refine (rmust_calls HF.out.st [125]).mono ?_
        rintro en w3 ⟨rfl, hx, hm⟩
        replace HF := Lib.hid (HF.out.call hx hm)
        clear hx hm
        go_wp2_with fail
        go_ret
        exact ⟨_, rfl, HF.out.rowOfS 0 rfl, HF.out.rx, HF.out.st⟩
end
end Go.Proofs.YtdijffojppjmfaaDoor
set_option linter.unusedVariables false
set_option linter.unusedSimpArgs false
namespace Go.Proofs.YtdijffojppjmfaaDoor
open Go.RowKit Bir Go.BW
section
variable {w : World} {rb tb e n : Nat} {T : List Tok} {s : RS} {p : St × RS}
set_option maxHeartbeats 16000000 in
set_option maxRecDepth 100000 in
theorem rifs_step (ih : RAll n) (iq : SAll n) (h : RM w rb tb e T s) (hp : (rd T e (n + 1)).ifs s = some p) : Calls Tryd.prog 157 #[pp rb] w (RPost SVal w rb tb e T p) := by
  replace hp : (((rd T e n).expr (s.must T e [105, 102])).bind fun p => (rBlock T e (rd T e n) p.2).bind fun q =>
    if is [101, 108, 115, 101] (q.2.next T) then
      (if is [105, 102] (q.2.adv.next T) then ((rd T e n).ifs q.2.adv).bind fun u => some (St.mk 4 [] [p.1] q.1 [u.1], u.2)
       else (rBlock T e (rd T e n) q.2.adv).bind fun u => some (St.mk 4 [] [p.1] q.1 u.1, u.2))
    else some (St.mk 4 [] [p.1] q.1 [], q.2)) = some p := hp
  obtain ⟨⟨x, s1⟩, h1, hp⟩ := ob hp
  obtain ⟨⟨b, s2⟩, h2, hp⟩ := ob hp
  have HI := Lib.hid ih
  have HQ := Lib.hid iq
  have H1 := Lib.hid h1
  have H2 := Lib.hid h2
  clear h1 h2
  cases hi : Bir.is [101, 108, 115, 101] (s2.next T) with
  | false =>
    rw [show (b, s2).2.next T = s2.next T from rfl, hi] at hp
    obtain rfl : (St.mk 4 [] [x] b [], s2) = p := by injection hp
    have HF := Lib.hid (RF.start h)
    replace HF := Lib.hid (HF.out.make [.int .i64 0, .string ⟨#[]⟩, .slice none 0 0, .slice none 0 0, .slice none 0 0] 98 (by decide))
    (try simp only [World.size_alloc] at HF)
    replace HF := Lib.hid (HF.out.make [.int .i64 4, .string ⟨#[]⟩, .slice none 0 0, .slice none 0 0, .slice none 0 0] 98 (by decide))
    (try simp only [World.size_alloc] at HF)
    clear h ih iq hp
    go_enter Tryd.func157, Tryd.ntmps157
    go_wp2_with fail
    refine (rmust_calls HF.out.st [105, 102]).mono ?_
    rintro en w0 ⟨rfl, hx, hm⟩
    replace HF := Lib.hid (HF.out.call hx hm)
    clear hx hm
    go_wp2_with fail
    refine (HI.out.expr HF.out.st H1.out).mono ?_
    rintro en w1 ⟨v, rfl, ⟨kv, rfl, hr⟩, hx, hm⟩
    replace HF := Lib.hid (HF.out.callE hx hm hr)
    obtain ⟨A1, c1, rfl, _⟩ := hr.slice
    clear hx hm hr
    replace HF := Lib.hid (HF.out.row1 (x := x) (HF.out.getE 0 rfl))
    (try simp only [World.size_alloc] at HF)
    obtain ⟨⟨m0, m1, m2, m3, m4⟩, mf, ml, mn⟩ := HF.out.c5 2 rfl
    replace HF := Lib.hid (HF.out.set 2 rfl 2 (.slice (some ⟨w1.heap.size, 0, none⟩) 1 1))
    go_wp2_with fail
    clear m0 m1 m2 m3 m4 mf ml mn
    refine (HQ.out.block HF.out.st H2.out).mono ?_
    rintro en w2 ⟨v, rfl, hr, hx, hm⟩
    replace HF := Lib.hid (HF.out.callB hx hm hr)
    obtain ⟨A2, c2, rfl, _⟩ := SRow.slice hr
    clear hx hm hr
    obtain ⟨⟨m0, m1, m2, m3, m4⟩, mf, ml, mn⟩ := HF.out.c5 3 rfl
    replace HF := Lib.hid (HF.out.set 3 rfl 3 (.slice A2 b.length c2))
    go_wp2_with fail
    clear m0 m1 m2 m3 m4 mf ml mn
    refine (rtake_no HF.out.st [101, 108, 115, 101] hi).mono ?_
    rintro en w0 ⟨rfl, hb⟩
    replace HF := Lib.hid (HF.out.below hb)
    clear hb
    obtain ⟨⟨m0, m1, m2, m3, m4⟩, mf, ml, mn⟩ := HF.out.c5 3 rfl
    obtain ⟨⟨r0, r1, r2, r3, r4⟩, rf, rl, rn⟩ := HF.out.c5 4 rfl
    go_wp2_with fail
    exact rf_endS rfl HF.out 4 rfl rfl fun W h => ⟨_, rfl, ⟨_, _, _, rfl, h.outE 1 rfl, h.outB 0 rfl, .nil none 0⟩, h.rx, h.st⟩
  | true =>
    rw [show (b, s2).2.next T = s2.next T from rfl, hi] at hp
    simp only [if_true] at hp
    cases hj : Bir.is [105, 102] (s2.adv.next T) with
    | true =>
      rw [hj] at hp
      simp only [if_true] at hp
      obtain ⟨⟨u, s3⟩, h3, hp⟩ := ob hp
      obtain rfl : (St.mk 4 [] [x] b [u], s3) = p := by injection hp
      have H3 := Lib.hid h3
      clear h3
      have HF := Lib.hid (RF.start h)
      replace HF := Lib.hid (HF.out.make [.int .i64 0, .string ⟨#[]⟩, .slice none 0 0, .slice none 0 0, .slice none 0 0] 98 (by decide))
      (try simp only [World.size_alloc] at HF)
      replace HF := Lib.hid (HF.out.make [.int .i64 4, .string ⟨#[]⟩, .slice none 0 0, .slice none 0 0, .slice none 0 0] 98 (by decide))
      (try simp only [World.size_alloc] at HF)
      clear h ih iq hp
      go_enter Tryd.func157, Tryd.ntmps157
      go_wp2_with fail
      refine (rmust_calls HF.out.st [105, 102]).mono ?_
      rintro en w0 ⟨rfl, hx, hm⟩
      replace HF := Lib.hid (HF.out.call hx hm)
      clear hx hm
      go_wp2_with fail
      refine (HI.out.expr HF.out.st H1.out).mono ?_
      rintro en w1 ⟨v, rfl, ⟨kv, rfl, hr⟩, hx, hm⟩
      replace HF := Lib.hid (HF.out.callE hx hm hr)
      obtain ⟨A1, c1, rfl, _⟩ := hr.slice
      clear hx hm hr
      replace HF := Lib.hid (HF.out.row1 (x := x) (HF.out.getE 0 rfl))
      (try simp only [World.size_alloc] at HF)
      obtain ⟨⟨m0, m1, m2, m3, m4⟩, mf, ml, mn⟩ := HF.out.c5 2 rfl
      replace HF := Lib.hid (HF.out.set 2 rfl 2 (.slice (some ⟨w1.heap.size, 0, none⟩) 1 1))
      go_wp2_with fail
      clear m0 m1 m2 m3 m4 mf ml mn
      refine (HQ.out.block HF.out.st H2.out).mono ?_
      rintro en w2 ⟨v, rfl, hr, hx, hm⟩
      replace HF := Lib.hid (HF.out.callB hx hm hr)
      obtain ⟨A2, c2, rfl, _⟩ := SRow.slice hr
      clear hx hm hr
      obtain ⟨⟨m0, m1, m2, m3, m4⟩, mf, ml, mn⟩ := HF.out.c5 3 rfl
      replace HF := Lib.hid (HF.out.set 3 rfl 3 (.slice A2 b.length c2))
      go_wp2_with fail
      clear m0 m1 m2 m3 m4 mf ml mn
      refine (rtake_yes HF.out.st [101, 108, 115, 101] hi).mono ?_
      rintro en w0 ⟨rfl, hx, hm⟩
      replace HF := Lib.hid (HF.out.call hx hm)
      clear hx hm
      go_wp2_with fail
      refine (ris_calls HF.out.st [105, 102]).mono ?_
      rw [hj]
      rintro en w0 ⟨rfl, hb⟩
      replace HF := Lib.hid (HF.out.below hb)
      clear hb
      go_wp2_with fail
      refine (HQ.out.ifs HF.out.st H3.out).mono ?_
      rintro en w3 ⟨v, rfl, ⟨ev, bv, lv, rfl, hr1, hr2, hr3⟩, hx, hm⟩
      replace HF := Lib.hid (HF.out.callS hx hm hr1 hr2 hr3)
      obtain ⟨A3, c3, rfl, _⟩ := hr1.slice
      obtain ⟨B3, d3, rfl, _⟩ := SRow.slice hr2
      obtain ⟨C3, f3, rfl, _⟩ := SRow.slice hr3
      clear hx hm hr1 hr2 hr3
      replace HF := Lib.hid (HF.out.rowS1 (x := u) (HF.out.getE 0 rfl) (HF.out.getB 1 rfl) (HF.out.getB 2 rfl))
      obtain ⟨⟨m0, m1, m2, m3, m4⟩, mf, ml, mn⟩ := HF.out.c5 7 rfl
      obtain ⟨⟨r0, r1, r2, r3, r4⟩, rf, rl, rn⟩ := HF.out.c5 8 rfl
      replace HF := Lib.hid (HF.out.set 7 rfl 4 (.slice (some ⟨w3.heap.size, 0, none⟩) 1 1))
      go_wp2_with fail
      exact rf_endS rfl HF.out 8 rfl rfl fun W h => ⟨_, rfl, ⟨_, _, _, rfl, h.outE 5 rfl, h.outB 4 rfl, h.outB 0 rfl⟩, h.rx, h.st⟩
    | false =>
      rw [hj] at hp
      simp only [Bool.false_eq_true, if_false] at hp
      obtain ⟨⟨u, s3⟩, h3, hp⟩ := ob hp
      obtain rfl : (St.mk 4 [] [x] b u, s3) = p := by injection hp
      have H3 := Lib.hid h3
      clear h3
      have HF := Lib.hid (RF.start h)
      replace HF := Lib.hid (HF.out.make [.int .i64 0, .string ⟨#[]⟩, .slice none 0 0, .slice none 0 0, .slice none 0 0] 98 (by decide))
      (try simp only [World.size_alloc] at HF)
      replace HF := Lib.hid (HF.out.make [.int .i64 4, .string ⟨#[]⟩, .slice none 0 0, .slice none 0 0, .slice none 0 0] 98 (by decide))
      (try simp only [World.size_alloc] at HF)
      clear h ih iq hp
      go_enter Tryd.func157, Tryd.ntmps157
      go_wp2_with fail
      refine (rmust_calls HF.out.st [105, 102]).mono ?_
      rintro en w0 ⟨rfl, hx, hm⟩
      replace HF := Lib.hid (HF.out.call hx hm)
      clear hx hm
      go_wp2_with fail
      refine (HI.out.expr HF.out.st H1.out).mono ?_
      rintro en w1 ⟨v, rfl, ⟨kv, rfl, hr⟩, hx, hm⟩
      replace HF := Lib.hid (HF.out.callE hx hm hr)
      obtain ⟨A1, c1, rfl, _⟩ := hr.slice
      clear hx hm hr
      replace HF := Lib.hid (HF.out.row1 (x := x) (HF.out.getE 0 rfl))
      (try simp only [World.size_alloc] at HF)
      obtain ⟨⟨m0, m1, m2, m3, m4⟩, mf, ml, mn⟩ := HF.out.c5 2 rfl
      replace HF := Lib.hid (HF.out.set 2 rfl 2 (.slice (some ⟨w1.heap.size, 0, none⟩) 1 1))
      go_wp2_with fail
      clear m0 m1 m2 m3 m4 mf ml mn
      refine (HQ.out.block HF.out.st H2.out).mono ?_
      rintro en w2 ⟨v, rfl, hr, hx, hm⟩
      replace HF := Lib.hid (HF.out.callB hx hm hr)
      obtain ⟨A2, c2, rfl, _⟩ := SRow.slice hr
      clear hx hm hr
      obtain ⟨⟨m0, m1, m2, m3, m4⟩, mf, ml, mn⟩ := HF.out.c5 3 rfl
      replace HF := Lib.hid (HF.out.set 3 rfl 3 (.slice A2 b.length c2))
      go_wp2_with fail
      clear m0 m1 m2 m3 m4 mf ml mn
      refine (rtake_yes HF.out.st [101, 108, 115, 101] hi).mono ?_
      rintro en w0 ⟨rfl, hx, hm⟩
      replace HF := Lib.hid (HF.out.call hx hm)
      clear hx hm
      go_wp2_with fail
      refine (ris_calls HF.out.st [105, 102]).mono ?_
      rw [hj]
      rintro en w0 ⟨rfl, hb⟩
      replace HF := Lib.hid (HF.out.below hb)
      clear hb
      go_wp2_with fail
      refine (HQ.out.block HF.out.st H3.out).mono ?_
      rintro en w3 ⟨v, rfl, hr, hx, hm⟩
      replace HF := Lib.hid (HF.out.callB hx hm hr)
      obtain ⟨A3, c3, rfl, _⟩ := SRow.slice hr
      clear hx hm hr
      obtain ⟨⟨m0, m1, m2, m3, m4⟩, mf, ml, mn⟩ := HF.out.c5 4 rfl
      obtain ⟨⟨r0, r1, r2, r3, r4⟩, rf, rl, rn⟩ := HF.out.c5 5 rfl
      replace HF := Lib.hid (HF.out.set 4 rfl 4 (.slice A3 u.length c3))
      go_wp2_with fail
      exact rf_endS rfl HF.out 5 rfl rfl fun W h => ⟨_, rfl, ⟨_, _, _, rfl, h.outE 2 rfl, h.outB 1 rfl, h.outB 0 rfl⟩, h.rx, h.st⟩
set_option maxHeartbeats 8000000 in
set_option maxRecDepth 100000 in
theorem rst_let (ih : RAll n) (iq : SAll n) (h : RM w rb tb e T s) (h_let : Bir.is [108, 101, 116] (s.next T) = true) (hp : rSet T e (rd T e n) 1 (s.adv.name T e).1 ((s.adv.name T e).2.must T e [61]) = some p) : Calls Tryd.prog 131 #[pp rb] w (RPost SVal w rb tb e T p) := by
  have qN := Lib.hid (fun (w' : World) (h' : RM w' rb tb e T (s.adv)) => rname_calls h')
  generalize (s.adv).name T e = q at qN hp
  unfold rSet at hp
  obtain ⟨⟨x, s1⟩, h1, hp⟩ := ob hp
  obtain rfl : (St.mk 1 q.1 [x] [] [], s1.must T e [59]) = p := by injection hp
  have H1 := Lib.hid h1
  clear h1
  have HI := Lib.hid ih
  have HQ := Lib.hid iq
  have HF := Lib.hid (RF.start h)
  replace HF := Lib.hid (HF.out.make [.int .i64 0, .string ⟨#[]⟩, .slice none 0 0, .slice none 0 0, .slice none 0 0] 98 (by decide))
  (try simp only [World.size_alloc] at HF)
  replace HF := Lib.hid (HF.out.make [.int .i64 0, .string ⟨#[]⟩, .slice none 0 0, .slice none 0 0, .slice none 0 0] 98 (by decide))
  (try simp only [World.size_alloc] at HF)
  clear h ih iq hp
  go_enter Tryd.func131, Tryd.ntmps131
  go_wp2_with fail
  refine (rtake_yes HF.out.st [108, 101, 116] h_let).mono ?_
  rintro en w0 ⟨rfl, hx, hm⟩
  replace HF := Lib.hid (HF.out.call hx hm)
  clear hx hm
  obtain ⟨⟨m0, m1, m2, m3, m4⟩, mf, ml, mn⟩ := HF.out.c5 0 rfl
  replace HF := Lib.hid (HF.out.set 0 rfl 0 (.int .i64 1))
  go_wp2_with fail
  clear m0 m1 m2 m3 m4 mf ml mn
  refine (qN.out _ HF.out.st).mono ?_
  rintro en w0 ⟨rfl, hx, hm⟩
  replace HF := Lib.hid (HF.out.call hx hm)
  clear hx hm
  obtain ⟨⟨m0, m1, m2, m3, m4⟩, mf, ml, mn⟩ := HF.out.c5 0 rfl
  replace HF := Lib.hid (HF.out.set 0 rfl 1 (.string (ba q.1)))
  go_wp2_with fail
  clear m0 m1 m2 m3 m4 mf ml mn
  refine (rmust_calls HF.out.st [61]).mono ?_
  rintro en w0 ⟨rfl, hx, hm⟩
  replace HF := Lib.hid (HF.out.call hx hm)
  clear hx hm
  go_wp2_with fail
  refine (HI.out.expr HF.out.st H1.out).mono ?_
  rintro en w1 ⟨v, rfl, ⟨kv, rfl, hr⟩, hx, hm⟩
  replace HF := Lib.hid (HF.out.callE hx hm hr)
  obtain ⟨A1, c1, rfl, _⟩ := hr.slice
  clear hx hm hr
  replace HF := Lib.hid (HF.out.row1 (x := x) (HF.out.getE 0 rfl))
  (try simp only [World.size_alloc] at HF)
  obtain ⟨⟨m0, m1, m2, m3, m4⟩, mf, ml, mn⟩ := HF.out.c5 2 rfl
  replace HF := Lib.hid (HF.out.set 2 rfl 2 (.slice (some ⟨w1.heap.size, 0, none⟩) 1 1))
  go_wp2_with fail
  clear m0 m1 m2 m3 m4 mf ml mn
  refine (rmust_calls HF.out.st [59]).mono ?_
  rintro en w0 ⟨rfl, hx, hm⟩
  replace HF := Lib.hid (HF.out.call hx hm)
  clear hx hm
  obtain ⟨⟨m0, m1, m2, m3, m4⟩, mf, ml, mn⟩ := HF.out.c5 2 rfl
  obtain ⟨⟨r0, r1, r2, r3, r4⟩, rf, rl, rn⟩ := HF.out.c5 3 rfl
  go_wp2_with fail
  exact rf_endS rfl HF.out 3 rfl rfl fun W h => ⟨_, rfl, ⟨_, _, _, rfl, h.outE 0 rfl, .nil none 0, .nil none 0⟩, h.rx, h.st⟩
set_option maxHeartbeats 8000000 in
set_option maxRecDepth 100000 in
theorem rst_if (ih : RAll n) (iq : SAll n) (h : RM w rb tb e T s) (h_let : Bir.is [108, 101, 116] (s.next T) = false) (h_if : Bir.is [105, 102] (s.next T) = true) (hp : (rd T e n).ifs s = some p) : Calls Tryd.prog 131 #[pp rb] w (RPost SVal w rb tb e T p) := by
  obtain ⟨u, s1⟩ := p
  have HP := Lib.hid hp
  have HI := Lib.hid ih
  have HQ := Lib.hid iq
  have HF := Lib.hid (RF.start h)
  replace HF := Lib.hid (HF.out.make [.int .i64 0, .string ⟨#[]⟩, .slice none 0 0, .slice none 0 0, .slice none 0 0] 98 (by decide))
  (try simp only [World.size_alloc] at HF)
  replace HF := Lib.hid (HF.out.make [.int .i64 0, .string ⟨#[]⟩, .slice none 0 0, .slice none 0 0, .slice none 0 0] 98 (by decide))
  (try simp only [World.size_alloc] at HF)
  clear h ih iq hp
  go_enter Tryd.func131, Tryd.ntmps131
  go_wp2_with fail
  refine (rtake_no HF.out.st [108, 101, 116] h_let).mono ?_
  rintro en w0 ⟨rfl, hb⟩
  replace HF := Lib.hid (HF.out.below hb)
  clear hb
  go_wp2_with fail
  refine (ris_calls HF.out.st [105, 102]).mono ?_
  rw [h_if]
  rintro en w0 ⟨rfl, hb⟩
  replace HF := Lib.hid (HF.out.below hb)
  clear hb
  go_wp2_with fail
  refine (HQ.out.ifs HF.out.st HP.out).mono ?_
  rintro en w1 ⟨v, rfl, ⟨ev, bv, lv, rfl, hr1, hr2, hr3⟩, hx, hm⟩
  replace HF := Lib.hid (HF.out.callS hx hm hr1 hr2 hr3)
  obtain ⟨A1, c1, rfl, _⟩ := hr1.slice
  obtain ⟨B1, d1, rfl, _⟩ := SRow.slice hr2
  obtain ⟨C1, f1, rfl, _⟩ := SRow.slice hr3
  clear hx hm hr1 hr2 hr3
  obtain ⟨⟨r0, r1, r2, r3, r4⟩, rf, rl, rn⟩ := HF.out.c5 4 rfl
  go_wp2_with fail
  exact rf_endS rfl HF.out 4 rfl rfl fun W h => ⟨_, rfl, ⟨_, _, _, rfl, h.outE 0 rfl, h.outB 1 rfl, h.outB 2 rfl⟩, h.rx, h.st⟩
set_option maxHeartbeats 8000000 in
set_option maxRecDepth 100000 in
theorem rst_while (ih : RAll n) (iq : SAll n) (h : RM w rb tb e T s) (h_let : Bir.is [108, 101, 116] (s.next T) = false) (h_if : Bir.is [105, 102] (s.next T) = false) (h_while : Bir.is [119, 104, 105, 108, 101] (s.next T) = true) (hp : ((rd T e n).expr s.adv).bind (fun p => (rBlock T e (rd T e n) p.2).bind fun q => some (St.mk 5 [] [p.1] q.1 [], q.2)) = some p) : Calls Tryd.prog 131 #[pp rb] w (RPost SVal w rb tb e T p) := by
  obtain ⟨⟨x, s1⟩, h1, hp⟩ := ob hp
  obtain ⟨⟨b, s2⟩, h2, hp⟩ := ob hp
  obtain rfl : (St.mk 5 [] [x] b [], s2) = p := by injection hp
  have H1 := Lib.hid h1
  have H2 := Lib.hid h2
  clear h1 h2
  have HI := Lib.hid ih
  have HQ := Lib.hid iq
  have HF := Lib.hid (RF.start h)
  replace HF := Lib.hid (HF.out.make [.int .i64 0, .string ⟨#[]⟩, .slice none 0 0, .slice none 0 0, .slice none 0 0] 98 (by decide))
  (try simp only [World.size_alloc] at HF)
  replace HF := Lib.hid (HF.out.make [.int .i64 0, .string ⟨#[]⟩, .slice none 0 0, .slice none 0 0, .slice none 0 0] 98 (by decide))
  (try simp only [World.size_alloc] at HF)
  clear h ih iq hp
  go_enter Tryd.func131, Tryd.ntmps131
  go_wp2_with fail
  refine (rtake_no HF.out.st [108, 101, 116] h_let).mono ?_
  rintro en w0 ⟨rfl, hb⟩
  replace HF := Lib.hid (HF.out.below hb)
  clear hb
  go_wp2_with fail
  refine (ris_calls HF.out.st [105, 102]).mono ?_
  rw [h_if]
  rintro en w0 ⟨rfl, hb⟩
  replace HF := Lib.hid (HF.out.below hb)
  clear hb
  go_wp2_with fail
  refine (rtake_yes HF.out.st [119, 104, 105, 108, 101] h_while).mono ?_
  rintro en w0 ⟨rfl, hx, hm⟩
  replace HF := Lib.hid (HF.out.call hx hm)
  clear hx hm
  obtain ⟨⟨m0, m1, m2, m3, m4⟩, mf, ml, mn⟩ := HF.out.c5 0 rfl
  replace HF := Lib.hid (HF.out.set 0 rfl 0 (.int .i64 5))
  go_wp2_with fail
  clear m0 m1 m2 m3 m4 mf ml mn
  refine (HI.out.expr HF.out.st H1.out).mono ?_
  rintro en w1 ⟨v, rfl, ⟨kv, rfl, hr⟩, hx, hm⟩
  replace HF := Lib.hid (HF.out.callE hx hm hr)
  obtain ⟨A1, c1, rfl, _⟩ := hr.slice
  clear hx hm hr
  replace HF := Lib.hid (HF.out.row1 (x := x) (HF.out.getE 0 rfl))
  (try simp only [World.size_alloc] at HF)
  obtain ⟨⟨m0, m1, m2, m3, m4⟩, mf, ml, mn⟩ := HF.out.c5 2 rfl
  replace HF := Lib.hid (HF.out.set 2 rfl 2 (.slice (some ⟨w1.heap.size, 0, none⟩) 1 1))
  go_wp2_with fail
  clear m0 m1 m2 m3 m4 mf ml mn
  refine (HQ.out.block HF.out.st H2.out).mono ?_
  rintro en w2 ⟨v, rfl, hr, hx, hm⟩
  replace HF := Lib.hid (HF.out.callB hx hm hr)
  obtain ⟨A2, c2, rfl, _⟩ := SRow.slice hr
  clear hx hm hr
  obtain ⟨⟨m0, m1, m2, m3, m4⟩, mf, ml, mn⟩ := HF.out.c5 3 rfl
  obtain ⟨⟨r0, r1, r2, r3, r4⟩, rf, rl, rn⟩ := HF.out.c5 4 rfl
  replace HF := Lib.hid (HF.out.set 3 rfl 3 (.slice A2 b.length c2))
  go_wp2_with fail
  exact rf_endS rfl HF.out 4 rfl rfl fun W h => ⟨_, rfl, ⟨_, _, _, rfl, h.outE 1 rfl, h.outB 0 rfl, .nil none 0⟩, h.rx, h.st⟩
set_option maxHeartbeats 8000000 in
set_option maxRecDepth 100000 in
theorem rst_for (ih : RAll n) (iq : SAll n) (h : RM w rb tb e T s) (h_let : Bir.is [108, 101, 116] (s.next T) = false) (h_if : Bir.is [105, 102] (s.next T) = false) (h_while : Bir.is [119, 104, 105, 108, 101] (s.next T) = false) (h_for : Bir.is [102, 111, 114] (s.next T) = true) (hp : ((rd T e n).expr ((s.adv.name T e).2.must T e [61])).bind (fun p => ((rd T e n).expr (p.2.must T e [116, 111])).bind fun q => (rBlock T e (rd T e n) q.2).bind fun u => some (St.mk 6 (s.adv.name T e).1 [p.1, q.1] u.1 [], u.2)) = some p) : Calls Tryd.prog 131 #[pp rb] w (RPost SVal w rb tb e T p) := by
  have qN := Lib.hid (fun (w' : World) (h' : RM w' rb tb e T (s.adv)) => rname_calls h')
  generalize (s.adv).name T e = q at qN hp
  obtain ⟨⟨x, s1⟩, h1, hp⟩ := ob hp
  obtain ⟨⟨y, s2⟩, h2, hp⟩ := ob hp
  obtain ⟨⟨b, s3⟩, h3, hp⟩ := ob hp
  obtain rfl : (St.mk 6 q.1 [x, y] b [], s3) = p := by injection hp
  have H1 := Lib.hid h1
  have H2 := Lib.hid h2
  have H3 := Lib.hid h3
  clear h1 h2 h3
  have HI := Lib.hid ih
  have HQ := Lib.hid iq
  have HF := Lib.hid (RF.start h)
  replace HF := Lib.hid (HF.out.make [.int .i64 0, .string ⟨#[]⟩, .slice none 0 0, .slice none 0 0, .slice none 0 0] 98 (by decide))
  (try simp only [World.size_alloc] at HF)
  replace HF := Lib.hid (HF.out.make [.int .i64 0, .string ⟨#[]⟩, .slice none 0 0, .slice none 0 0, .slice none 0 0] 98 (by decide))
  (try simp only [World.size_alloc] at HF)
  clear h ih iq hp
  go_enter Tryd.func131, Tryd.ntmps131
  go_wp2_with fail
  refine (rtake_no HF.out.st [108, 101, 116] h_let).mono ?_
  rintro en w0 ⟨rfl, hb⟩
  replace HF := Lib.hid (HF.out.below hb)
  clear hb
  go_wp2_with fail
  refine (ris_calls HF.out.st [105, 102]).mono ?_
  rw [h_if]
  rintro en w0 ⟨rfl, hb⟩
  replace HF := Lib.hid (HF.out.below hb)
  clear hb
  go_wp2_with fail
  refine (rtake_no HF.out.st [119, 104, 105, 108, 101] h_while).mono ?_
  rintro en w0 ⟨rfl, hb⟩
  replace HF := Lib.hid (HF.out.below hb)
  clear hb
  go_wp2_with fail
  refine (rtake_yes HF.out.st [102, 111, 114] h_for).mono ?_
  rintro en w0 ⟨rfl, hx, hm⟩
  replace HF := Lib.hid (HF.out.call hx hm)
  clear hx hm
  obtain ⟨⟨m0, m1, m2, m3, m4⟩, mf, ml, mn⟩ := HF.out.c5 0 rfl
  replace HF := Lib.hid (HF.out.set 0 rfl 0 (.int .i64 6))
  go_wp2_with fail
  clear m0 m1 m2 m3 m4 mf ml mn
  refine (qN.out _ HF.out.st).mono ?_
  rintro en w0 ⟨rfl, hx, hm⟩
  replace HF := Lib.hid (HF.out.call hx hm)
  clear hx hm
  obtain ⟨⟨m0, m1, m2, m3, m4⟩, mf, ml, mn⟩ := HF.out.c5 0 rfl
  replace HF := Lib.hid (HF.out.set 0 rfl 1 (.string (ba q.1)))
  go_wp2_with fail
  clear m0 m1 m2 m3 m4 mf ml mn
  refine (rmust_calls HF.out.st [61]).mono ?_
  rintro en w0 ⟨rfl, hx, hm⟩
  replace HF := Lib.hid (HF.out.call hx hm)
  clear hx hm
  go_wp2_with fail
  refine (HI.out.expr HF.out.st H1.out).mono ?_
  rintro en w1 ⟨v, rfl, ⟨kv, rfl, hr⟩, hx, hm⟩
  replace HF := Lib.hid (HF.out.callE hx hm hr)
  obtain ⟨A1, c1, rfl, _⟩ := hr.slice
  clear hx hm hr
  have sne := (HF.out.cell 1 rfl).2.2.1
  replace HF := Lib.hid (HF.out.make [.int .i64 x.kind, .int .i64 x.num, .string (ba x.name), .slice A1 x.kids.length c1] 36 (by decide))
  (try simp only [World.size_alloc] at HF)
  go_wp2_with fail
  refine (rmust_calls HF.out.st [116, 111]).mono ?_
  rintro en w0 ⟨rfl, hx, hm⟩
  replace HF := Lib.hid (HF.out.call hx hm)
  clear hx hm
  generalize hxb : w1.heap.size = xb at HF sne ⊢
  replace sne := Nat.ne_of_lt sne
  go_wp2_with fail
  obtain ⟨⟨k0, k1, k2, k3⟩, kf, kl, kn⟩ := HF.out.c4 0 rfl
  replace HF := Lib.hid HF.out.drew
  go_region_held3 (fun w' => w'.cell? ⟨xb, 0, none⟩ = some (.int .i64 x.kind) ∧ w'.cell? ⟨xb, 1, none⟩ = some (.int .i64 x.num) ∧ w'.cell? ⟨xb, 2, none⟩ = some (.string (ba x.name)) ∧ w'.cell? ⟨xb, 3, none⟩ = some (.slice A1 x.kids.length c1)) (go_keep) (first | (go_at_call 45; (with_reducible refine (HI.out.expr HF.out.st H2.out).mono ?_); rintro en w2 ⟨v, rfl, ⟨kv, rfl, hr⟩, hx, hm⟩; replace HF := Lib.hid (HF.out.callE hx hm hr); obtain ⟨A2, c2, rfl, _⟩ := hr.slice; clear hx hm hr k0 k1 k2 k3 kf kl kn; obtain ⟨⟨k0, k1, k2, k3⟩, kf, kl, kn⟩ := HF.out.c4 1 rfl; obtain ⟨⟨m0, m1, m2, m3, m4⟩, mf, ml, mn⟩ := HF.out.c5 3 rfl))
  replace HF := Lib.hid (HF.out.row2 (x := x) (y := y) (HF.out.getE 2 rfl) (HF.out.getE 0 rfl))
  (try simp only [World.size_alloc] at HF)
  replace HF := Lib.hid (HF.out.set 4 rfl 2 (.slice (some ⟨w2.heap.size, 0, none⟩) 2 2))
  rw [World.setCell_alloc_past _ _ _ _ ml] at HF
  clear k0 k1 k2 k3 kf kl kn m0 m1 m2 m3 m4 mf ml mn
  go_wp2_with fail
  refine (HQ.out.block HF.out.st H3.out).mono ?_
  rintro en w3 ⟨v, rfl, hr, hx, hm⟩
  replace HF := Lib.hid (HF.out.callB hx hm hr)
  obtain ⟨A3, c3, rfl, _⟩ := SRow.slice hr
  clear hx hm hr
  obtain ⟨⟨m0, m1, m2, m3, m4⟩, mf, ml, mn⟩ := HF.out.c5 5 rfl
  obtain ⟨⟨r0, r1, r2, r3, r4⟩, rf, rl, rn⟩ := HF.out.c5 6 rfl
  replace HF := Lib.hid (HF.out.set 5 rfl 3 (.slice A3 b.length c3))
  go_wp2_with fail
  exact rf_endS rfl HF.out 6 rfl rfl fun W h => ⟨_, rfl, ⟨_, _, _, rfl, h.outE 1 rfl, h.outB 0 rfl, .nil none 0⟩, h.rx, h.st⟩
set_option maxHeartbeats 8000000 in
set_option maxRecDepth 100000 in
theorem rst_print (ih : RAll n) (iq : SAll n) (h : RM w rb tb e T s) (h_let : Bir.is [108, 101, 116] (s.next T) = false) (h_if : Bir.is [105, 102] (s.next T) = false) (h_while : Bir.is [119, 104, 105, 108, 101] (s.next T) = false) (h_for : Bir.is [102, 111, 114] (s.next T) = false) (h_print : Bir.is [112, 114, 105, 110, 116] (s.next T) = true) (hp : rPlain T e (rd T e n) 7 s.adv = some p) : Calls Tryd.prog 131 #[pp rb] w (RPost SVal w rb tb e T p) := by
  obtain ⟨u, s1⟩ := p
  have HP := Lib.hid hp
  have HI := Lib.hid ih
  have HQ := Lib.hid iq
  have HF := Lib.hid (RF.start h)
  replace HF := Lib.hid (HF.out.make [.int .i64 0, .string ⟨#[]⟩, .slice none 0 0, .slice none 0 0, .slice none 0 0] 98 (by decide))
  (try simp only [World.size_alloc] at HF)
  replace HF := Lib.hid (HF.out.make [.int .i64 0, .string ⟨#[]⟩, .slice none 0 0, .slice none 0 0, .slice none 0 0] 98 (by decide))
  (try simp only [World.size_alloc] at HF)
  clear h ih iq hp
  go_enter Tryd.func131, Tryd.ntmps131
  go_wp2_with fail
  refine (rtake_no HF.out.st [108, 101, 116] h_let).mono ?_
  rintro en w0 ⟨rfl, hb⟩
  replace HF := Lib.hid (HF.out.below hb)
  clear hb
  go_wp2_with fail
  refine (ris_calls HF.out.st [105, 102]).mono ?_
  rw [h_if]
  rintro en w0 ⟨rfl, hb⟩
  replace HF := Lib.hid (HF.out.below hb)
  clear hb
  go_wp2_with fail
  refine (rtake_no HF.out.st [119, 104, 105, 108, 101] h_while).mono ?_
  rintro en w0 ⟨rfl, hb⟩
  replace HF := Lib.hid (HF.out.below hb)
  clear hb
  go_wp2_with fail
  refine (rtake_no HF.out.st [102, 111, 114] h_for).mono ?_
  rintro en w0 ⟨rfl, hb⟩
  replace HF := Lib.hid (HF.out.below hb)
  clear hb
  go_wp2_with fail
  refine (rtake_yes HF.out.st [112, 114, 105, 110, 116] h_print).mono ?_
  rintro en w0 ⟨rfl, hx, hm⟩
  replace HF := Lib.hid (HF.out.call hx hm)
  clear hx hm
  go_wp2_with fail
  refine (rplain_step HI.out HF.out.st 7 HP.out).mono ?_
  rintro en w1 ⟨v, rfl, ⟨ev, bv, lv, rfl, hr1, hr2, hr3⟩, hx, hm⟩
  replace HF := Lib.hid (HF.out.callS hx hm hr1 hr2 hr3)
  obtain ⟨A1, c1, rfl, _⟩ := hr1.slice
  obtain ⟨B1, d1, rfl, _⟩ := SRow.slice hr2
  obtain ⟨C1, f1, rfl, _⟩ := SRow.slice hr3
  clear hx hm hr1 hr2 hr3
  obtain ⟨⟨r0, r1, r2, r3, r4⟩, rf, rl, rn⟩ := HF.out.c5 4 rfl
  go_wp2_with fail
  exact rf_endS rfl HF.out 4 rfl rfl fun W h => ⟨_, rfl, ⟨_, _, _, rfl, h.outE 0 rfl, h.outB 1 rfl, h.outB 2 rfl⟩, h.rx, h.st⟩
set_option maxHeartbeats 8000000 in
set_option maxRecDepth 100000 in
theorem rst_throw (ih : RAll n) (iq : SAll n) (h : RM w rb tb e T s) (h_let : Bir.is [108, 101, 116] (s.next T) = false) (h_if : Bir.is [105, 102] (s.next T) = false) (h_while : Bir.is [119, 104, 105, 108, 101] (s.next T) = false) (h_for : Bir.is [102, 111, 114] (s.next T) = false) (h_print : Bir.is [112, 114, 105, 110, 116] (s.next T) = false) (h_throw : Bir.is [116, 104, 114, 111, 119] (s.next T) = true) (hp : rPlain T e (rd T e n) 8 s.adv = some p) : Calls Tryd.prog 131 #[pp rb] w (RPost SVal w rb tb e T p) := by
  obtain ⟨u, s1⟩ := p
  have HP := Lib.hid hp
  have HI := Lib.hid ih
  have HQ := Lib.hid iq
  have HF := Lib.hid (RF.start h)
  replace HF := Lib.hid (HF.out.make [.int .i64 0, .string ⟨#[]⟩, .slice none 0 0, .slice none 0 0, .slice none 0 0] 98 (by decide))
  (try simp only [World.size_alloc] at HF)
  replace HF := Lib.hid (HF.out.make [.int .i64 0, .string ⟨#[]⟩, .slice none 0 0, .slice none 0 0, .slice none 0 0] 98 (by decide))
  (try simp only [World.size_alloc] at HF)
  clear h ih iq hp
  go_enter Tryd.func131, Tryd.ntmps131
  go_wp2_with fail
  refine (rtake_no HF.out.st [108, 101, 116] h_let).mono ?_
  rintro en w0 ⟨rfl, hb⟩
  replace HF := Lib.hid (HF.out.below hb)
  clear hb
  go_wp2_with fail
  refine (ris_calls HF.out.st [105, 102]).mono ?_
  rw [h_if]
  rintro en w0 ⟨rfl, hb⟩
  replace HF := Lib.hid (HF.out.below hb)
  clear hb
  go_wp2_with fail
  refine (rtake_no HF.out.st [119, 104, 105, 108, 101] h_while).mono ?_
  rintro en w0 ⟨rfl, hb⟩
  replace HF := Lib.hid (HF.out.below hb)
  clear hb
  go_wp2_with fail
  refine (rtake_no HF.out.st [102, 111, 114] h_for).mono ?_
  rintro en w0 ⟨rfl, hb⟩
  replace HF := Lib.hid (HF.out.below hb)
  clear hb
  go_wp2_with fail
  refine (rtake_no HF.out.st [112, 114, 105, 110, 116] h_print).mono ?_
  rintro en w0 ⟨rfl, hb⟩
  replace HF := Lib.hid (HF.out.below hb)
  clear hb
  go_wp2_with fail
  refine (rtake_yes HF.out.st [116, 104, 114, 111, 119] h_throw).mono ?_
  rintro en w0 ⟨rfl, hx, hm⟩
  replace HF := Lib.hid (HF.out.call hx hm)
  clear hx hm
  go_wp2_with fail
  refine (rplain_step HI.out HF.out.st 8 HP.out).mono ?_
  rintro en w1 ⟨v, rfl, ⟨ev, bv, lv, rfl, hr1, hr2, hr3⟩, hx, hm⟩
  replace HF := Lib.hid (HF.out.callS hx hm hr1 hr2 hr3)
  obtain ⟨A1, c1, rfl, _⟩ := hr1.slice
  obtain ⟨B1, d1, rfl, _⟩ := SRow.slice hr2
  obtain ⟨C1, f1, rfl, _⟩ := SRow.slice hr3
  clear hx hm hr1 hr2 hr3
  obtain ⟨⟨r0, r1, r2, r3, r4⟩, rf, rl, rn⟩ := HF.out.c5 4 rfl
  go_wp2_with fail
  exact rf_endS rfl HF.out 4 rfl rfl fun W h => ⟨_, rfl, ⟨_, _, _, rfl, h.outE 0 rfl, h.outB 1 rfl, h.outB 2 rfl⟩, h.rx, h.st⟩
set_option maxHeartbeats 8000000 in
set_option maxRecDepth 100000 in
theorem rst_return (ih : RAll n) (iq : SAll n) (h : RM w rb tb e T s) (h_let : Bir.is [108, 101, 116] (s.next T) = false) (h_if : Bir.is [105, 102] (s.next T) = false) (h_while : Bir.is [119, 104, 105, 108, 101] (s.next T) = false) (h_for : Bir.is [102, 111, 114] (s.next T) = false) (h_print : Bir.is [112, 114, 105, 110, 116] (s.next T) = false) (h_throw : Bir.is [116, 104, 114, 111, 119] (s.next T) = false) (h_return : Bir.is [114, 101, 116, 117, 114, 110] (s.next T) = true) (hp : rPlain T e (rd T e n) 10 s.adv = some p) : Calls Tryd.prog 131 #[pp rb] w (RPost SVal w rb tb e T p) := by
  obtain ⟨u, s1⟩ := p
  have HP := Lib.hid hp
  have HI := Lib.hid ih
  have HQ := Lib.hid iq
  have HF := Lib.hid (RF.start h)
  replace HF := Lib.hid (HF.out.make [.int .i64 0, .string ⟨#[]⟩, .slice none 0 0, .slice none 0 0, .slice none 0 0] 98 (by decide))
  (try simp only [World.size_alloc] at HF)
  replace HF := Lib.hid (HF.out.make [.int .i64 0, .string ⟨#[]⟩, .slice none 0 0, .slice none 0 0, .slice none 0 0] 98 (by decide))
  (try simp only [World.size_alloc] at HF)
  clear h ih iq hp
  go_enter Tryd.func131, Tryd.ntmps131
  go_wp2_with fail
  refine (rtake_no HF.out.st [108, 101, 116] h_let).mono ?_
  rintro en w0 ⟨rfl, hb⟩
  replace HF := Lib.hid (HF.out.below hb)
  clear hb
  go_wp2_with fail
  refine (ris_calls HF.out.st [105, 102]).mono ?_
  rw [h_if]
  rintro en w0 ⟨rfl, hb⟩
  replace HF := Lib.hid (HF.out.below hb)
  clear hb
  go_wp2_with fail
  refine (rtake_no HF.out.st [119, 104, 105, 108, 101] h_while).mono ?_
  rintro en w0 ⟨rfl, hb⟩
  replace HF := Lib.hid (HF.out.below hb)
  clear hb
  go_wp2_with fail
  refine (rtake_no HF.out.st [102, 111, 114] h_for).mono ?_
  rintro en w0 ⟨rfl, hb⟩
  replace HF := Lib.hid (HF.out.below hb)
  clear hb
  go_wp2_with fail
  refine (rtake_no HF.out.st [112, 114, 105, 110, 116] h_print).mono ?_
  rintro en w0 ⟨rfl, hb⟩
  replace HF := Lib.hid (HF.out.below hb)
  clear hb
  go_wp2_with fail
  refine (rtake_no HF.out.st [116, 104, 114, 111, 119] h_throw).mono ?_
  rintro en w0 ⟨rfl, hb⟩
  replace HF := Lib.hid (HF.out.below hb)
  clear hb
  go_wp2_with fail
  refine (rtake_yes HF.out.st [114, 101, 116, 117, 114, 110] h_return).mono ?_
  rintro en w0 ⟨rfl, hx, hm⟩
  replace HF := Lib.hid (HF.out.call hx hm)
  clear hx hm
  go_wp2_with fail
  refine (rplain_step HI.out HF.out.st 10 HP.out).mono ?_
  rintro en w1 ⟨v, rfl, ⟨ev, bv, lv, rfl, hr1, hr2, hr3⟩, hx, hm⟩
  replace HF := Lib.hid (HF.out.callS hx hm hr1 hr2 hr3)
  obtain ⟨A1, c1, rfl, _⟩ := hr1.slice
  obtain ⟨B1, d1, rfl, _⟩ := SRow.slice hr2
  obtain ⟨C1, f1, rfl, _⟩ := SRow.slice hr3
  clear hx hm hr1 hr2 hr3
  obtain ⟨⟨r0, r1, r2, r3, r4⟩, rf, rl, rn⟩ := HF.out.c5 4 rfl
  go_wp2_with fail
  exact rf_endS rfl HF.out 4 rfl rfl fun W h => ⟨_, rfl, ⟨_, _, _, rfl, h.outE 0 rfl, h.outB 1 rfl, h.outB 2 rfl⟩, h.rx, h.st⟩
set_option maxHeartbeats 8000000 in
set_option maxRecDepth 100000 in
theorem rst_try (ih : RAll n) (iq : SAll n) (h : RM w rb tb e T s) (h_let : Bir.is [108, 101, 116] (s.next T) = false) (h_if : Bir.is [105, 102] (s.next T) = false) (h_while : Bir.is [119, 104, 105, 108, 101] (s.next T) = false) (h_for : Bir.is [102, 111, 114] (s.next T) = false) (h_print : Bir.is [112, 114, 105, 110, 116] (s.next T) = false) (h_throw : Bir.is [116, 104, 114, 111, 119] (s.next T) = false) (h_return : Bir.is [114, 101, 116, 117, 114, 110] (s.next T) = false) (h_try : Bir.is [116, 114, 121] (s.next T) = true) (hp : (rBlock T e (rd T e n) s.adv).bind (fun p => (rBlock T e (rd T e n) ((p.2.must T e [99, 97, 116, 99, 104]).name T e).2).bind fun q => some (St.mk 9 ((p.2.must T e [99, 97, 116, 99, 104]).name T e).1 [] p.1 q.1, q.2)) = some p) : Calls Tryd.prog 131 #[pp rb] w (RPost SVal w rb tb e T p) := by
  obtain ⟨⟨b, s1⟩, h1, hp⟩ := ob hp
  replace hp : (rBlock T e (rd T e n) ((s1.must T e [99, 97, 116, 99, 104]).name T e).2).bind (fun q => some (St.mk 9 ((s1.must T e [99, 97, 116, 99, 104]).name T e).1 [] b q.1, q.2)) = some p := hp
  have qN := Lib.hid (fun (w' : World) (h' : RM w' rb tb e T (s1.must T e [99, 97, 116, 99, 104])) => rname_calls h')
  generalize (s1.must T e [99, 97, 116, 99, 104]).name T e = q at qN hp
  obtain ⟨⟨u, s2⟩, h2, hp⟩ := ob hp
  obtain rfl : (St.mk 9 q.1 [] b u, s2) = p := by injection hp
  have H1 := Lib.hid h1
  have H2 := Lib.hid h2
  clear h1 h2
  have HI := Lib.hid ih
  have HQ := Lib.hid iq
  have HF := Lib.hid (RF.start h)
  replace HF := Lib.hid (HF.out.make [.int .i64 0, .string ⟨#[]⟩, .slice none 0 0, .slice none 0 0, .slice none 0 0] 98 (by decide))
  (try simp only [World.size_alloc] at HF)
  replace HF := Lib.hid (HF.out.make [.int .i64 0, .string ⟨#[]⟩, .slice none 0 0, .slice none 0 0, .slice none 0 0] 98 (by decide))
  (try simp only [World.size_alloc] at HF)
  clear h ih iq hp
  go_enter Tryd.func131, Tryd.ntmps131
  go_wp2_with fail
  refine (rtake_no HF.out.st [108, 101, 116] h_let).mono ?_
  rintro en w0 ⟨rfl, hb⟩
  replace HF := Lib.hid (HF.out.below hb)
  clear hb
  go_wp2_with fail
  refine (ris_calls HF.out.st [105, 102]).mono ?_
  rw [h_if]
  rintro en w0 ⟨rfl, hb⟩
  replace HF := Lib.hid (HF.out.below hb)
  clear hb
  go_wp2_with fail
  refine (rtake_no HF.out.st [119, 104, 105, 108, 101] h_while).mono ?_
  rintro en w0 ⟨rfl, hb⟩
  replace HF := Lib.hid (HF.out.below hb)
  clear hb
  go_wp2_with fail
  refine (rtake_no HF.out.st [102, 111, 114] h_for).mono ?_
  rintro en w0 ⟨rfl, hb⟩
  replace HF := Lib.hid (HF.out.below hb)
  clear hb
  go_wp2_with fail
  refine (rtake_no HF.out.st [112, 114, 105, 110, 116] h_print).mono ?_
  rintro en w0 ⟨rfl, hb⟩
  replace HF := Lib.hid (HF.out.below hb)
  clear hb
  go_wp2_with fail
  refine (rtake_no HF.out.st [116, 104, 114, 111, 119] h_throw).mono ?_
  rintro en w0 ⟨rfl, hb⟩
  replace HF := Lib.hid (HF.out.below hb)
  clear hb
  go_wp2_with fail
  refine (rtake_no HF.out.st [114, 101, 116, 117, 114, 110] h_return).mono ?_
  rintro en w0 ⟨rfl, hb⟩
  replace HF := Lib.hid (HF.out.below hb)
  clear hb
  go_wp2_with fail
  refine (rtake_yes HF.out.st [116, 114, 121] h_try).mono ?_
  rintro en w0 ⟨rfl, hx, hm⟩
  replace HF := Lib.hid (HF.out.call hx hm)
  clear hx hm
  obtain ⟨⟨m0, m1, m2, m3, m4⟩, mf, ml, mn⟩ := HF.out.c5 0 rfl
  replace HF := Lib.hid (HF.out.set 0 rfl 0 (.int .i64 9))
  go_wp2_with fail
  clear m0 m1 m2 m3 m4 mf ml mn
  refine (HQ.out.block HF.out.st H1.out).mono ?_
  rintro en w1 ⟨v, rfl, hr, hx, hm⟩
  replace HF := Lib.hid (HF.out.callB hx hm hr)
  obtain ⟨A1, c1, rfl, _⟩ := SRow.slice hr
  clear hx hm hr
  obtain ⟨⟨m0, m1, m2, m3, m4⟩, mf, ml, mn⟩ := HF.out.c5 1 rfl
  replace HF := Lib.hid (HF.out.set 1 rfl 3 (.slice A1 b.length c1))
  go_wp2_with fail
  clear m0 m1 m2 m3 m4 mf ml mn
  refine (rmust_calls HF.out.st [99, 97, 116, 99, 104]).mono ?_
  rintro en w0 ⟨rfl, hx, hm⟩
  replace HF := Lib.hid (HF.out.call hx hm)
  clear hx hm
  go_wp2_with fail
  refine (qN.out _ HF.out.st).mono ?_
  rintro en w0 ⟨rfl, hx, hm⟩
  replace HF := Lib.hid (HF.out.call hx hm)
  clear hx hm
  obtain ⟨⟨m0, m1, m2, m3, m4⟩, mf, ml, mn⟩ := HF.out.c5 1 rfl
  replace HF := Lib.hid (HF.out.set 1 rfl 1 (.string (ba q.1)))
  go_wp2_with fail
  clear m0 m1 m2 m3 m4 mf ml mn
  refine (HQ.out.block HF.out.st H2.out).mono ?_
  rintro en w2 ⟨v, rfl, hr, hx, hm⟩
  replace HF := Lib.hid (HF.out.callB hx hm hr)
  obtain ⟨A2, c2, rfl, _⟩ := SRow.slice hr
  clear hx hm hr
  obtain ⟨⟨m0, m1, m2, m3, m4⟩, mf, ml, mn⟩ := HF.out.c5 2 rfl
  obtain ⟨⟨r0, r1, r2, r3, r4⟩, rf, rl, rn⟩ := HF.out.c5 3 rfl
  replace HF := Lib.hid (HF.out.set 2 rfl 4 (.slice A2 u.length c2))
  go_wp2_with fail
  exact rf_endS rfl HF.out 3 rfl rfl fun W h => ⟨_, rfl, ⟨_, _, _, rfl, .nil none 0, h.outB 1 rfl, h.outB 0 rfl⟩, h.rx, h.st⟩
set_option maxHeartbeats 8000000 in
set_option maxRecDepth 100000 in
theorem rst_set (ih : RAll n) (iq : SAll n) (h : RM w rb tb e T s) (h_let : Bir.is [108, 101, 116] (s.next T) = false) (h_if : Bir.is [105, 102] (s.next T) = false) (h_while : Bir.is [119, 104, 105, 108, 101] (s.next T) = false) (h_for : Bir.is [102, 111, 114] (s.next T) = false) (h_print : Bir.is [112, 114, 105, 110, 116] (s.next T) = false) (h_throw : Bir.is [116, 104, 114, 111, 119] (s.next T) = false) (h_return : Bir.is [114, 101, 116, 117, 114, 110] (s.next T) = false) (h_try : Bir.is [116, 114, 121] (s.next T) = false) (g_set : Bir.is [61] ((s.name T e).2.next T) = true) (hp : rSet T e (rd T e n) 2 (s.name T e).1 (s.name T e).2.adv = some p) : Calls Tryd.prog 131 #[pp rb] w (RPost SVal w rb tb e T p) := by
  have qN := Lib.hid (fun (w' : World) (h' : RM w' rb tb e T (s)) => rname_calls h')
  generalize (s).name T e = q at qN hp g_set
  unfold rSet at hp
  obtain ⟨⟨x, s1⟩, h1, hp⟩ := ob hp
  obtain rfl : (St.mk 2 q.1 [x] [] [], s1.must T e [59]) = p := by injection hp
  have H1 := Lib.hid h1
  clear h1
  have HI := Lib.hid ih
  have HQ := Lib.hid iq
  have HF := Lib.hid (RF.start h)
  replace HF := Lib.hid (HF.out.make [.int .i64 0, .string ⟨#[]⟩, .slice none 0 0, .slice none 0 0, .slice none 0 0] 98 (by decide))
  (try simp only [World.size_alloc] at HF)
  replace HF := Lib.hid (HF.out.make [.int .i64 0, .string ⟨#[]⟩, .slice none 0 0, .slice none 0 0, .slice none 0 0] 98 (by decide))
  (try simp only [World.size_alloc] at HF)
  clear h ih iq hp
  go_enter Tryd.func131, Tryd.ntmps131
  go_wp2_with fail
  refine (rtake_no HF.out.st [108, 101, 116] h_let).mono ?_
  rintro en w0 ⟨rfl, hb⟩
  replace HF := Lib.hid (HF.out.below hb)
  clear hb
  go_wp2_with fail
  refine (ris_calls HF.out.st [105, 102]).mono ?_
  rw [h_if]
  rintro en w0 ⟨rfl, hb⟩
  replace HF := Lib.hid (HF.out.below hb)
  clear hb
  go_wp2_with fail
  refine (rtake_no HF.out.st [119, 104, 105, 108, 101] h_while).mono ?_
  rintro en w0 ⟨rfl, hb⟩
  replace HF := Lib.hid (HF.out.below hb)
  clear hb
  go_wp2_with fail
  refine (rtake_no HF.out.st [102, 111, 114] h_for).mono ?_
  rintro en w0 ⟨rfl, hb⟩
  replace HF := Lib.hid (HF.out.below hb)
  clear hb
  go_wp2_with fail
  refine (rtake_no HF.out.st [112, 114, 105, 110, 116] h_print).mono ?_
  rintro en w0 ⟨rfl, hb⟩
  replace HF := Lib.hid (HF.out.below hb)
  clear hb
  go_wp2_with fail
  refine (rtake_no HF.out.st [116, 104, 114, 111, 119] h_throw).mono ?_
  rintro en w0 ⟨rfl, hb⟩
  replace HF := Lib.hid (HF.out.below hb)
  clear hb
  go_wp2_with fail
  refine (rtake_no HF.out.st [114, 101, 116, 117, 114, 110] h_return).mono ?_
  rintro en w0 ⟨rfl, hb⟩
  replace HF := Lib.hid (HF.out.below hb)
  clear hb
  go_wp2_with fail
  refine (rtake_no HF.out.st [116, 114, 121] h_try).mono ?_
  rintro en w0 ⟨rfl, hb⟩
  replace HF := Lib.hid (HF.out.below hb)
  clear hb
  go_wp2_with fail
  refine (qN.out _ HF.out.st).mono ?_
  rintro en w0 ⟨rfl, hx, hm⟩
  replace HF := Lib.hid (HF.out.call hx hm)
  clear hx hm
  obtain ⟨⟨m0, m1, m2, m3, m4⟩, mf, ml, mn⟩ := HF.out.c5 0 rfl
  replace HF := Lib.hid (HF.out.set 0 rfl 1 (.string (ba q.1)))
  go_wp2_with fail
  clear m0 m1 m2 m3 m4 mf ml mn
  refine (rtake_yes HF.out.st [61] g_set).mono ?_
  rintro en w0 ⟨rfl, hx, hm⟩
  replace HF := Lib.hid (HF.out.call hx hm)
  clear hx hm
  obtain ⟨⟨m0, m1, m2, m3, m4⟩, mf, ml, mn⟩ := HF.out.c5 0 rfl
  replace HF := Lib.hid (HF.out.set 0 rfl 0 (.int .i64 2))
  go_wp2_with fail
  clear m0 m1 m2 m3 m4 mf ml mn
  refine (HI.out.expr HF.out.st H1.out).mono ?_
  rintro en w1 ⟨v, rfl, ⟨kv, rfl, hr⟩, hx, hm⟩
  replace HF := Lib.hid (HF.out.callE hx hm hr)
  obtain ⟨A1, c1, rfl, _⟩ := hr.slice
  clear hx hm hr
  replace HF := Lib.hid (HF.out.row1 (x := x) (HF.out.getE 0 rfl))
  (try simp only [World.size_alloc] at HF)
  obtain ⟨⟨m0, m1, m2, m3, m4⟩, mf, ml, mn⟩ := HF.out.c5 2 rfl
  replace HF := Lib.hid (HF.out.set 2 rfl 2 (.slice (some ⟨w1.heap.size, 0, none⟩) 1 1))
  go_wp2_with fail
  clear m0 m1 m2 m3 m4 mf ml mn
  refine (rmust_calls HF.out.st [59]).mono ?_
  rintro en w0 ⟨rfl, hx, hm⟩
  replace HF := Lib.hid (HF.out.call hx hm)
  clear hx hm
  obtain ⟨⟨m0, m1, m2, m3, m4⟩, mf, ml, mn⟩ := HF.out.c5 2 rfl
  obtain ⟨⟨r0, r1, r2, r3, r4⟩, rf, rl, rn⟩ := HF.out.c5 3 rfl
  go_wp2_with fail
  exact rf_endS rfl HF.out 3 rfl rfl fun W h => ⟨_, rfl, ⟨_, _, _, rfl, h.outE 0 rfl, .nil none 0, .nil none 0⟩, h.rx, h.st⟩
set_option maxHeartbeats 8000000 in
set_option maxRecDepth 100000 in
theorem rst_put (ih : RAll n) (iq : SAll n) (h : RM w rb tb e T s) (h_let : Bir.is [108, 101, 116] (s.next T) = false) (h_if : Bir.is [105, 102] (s.next T) = false) (h_while : Bir.is [119, 104, 105, 108, 101] (s.next T) = false) (h_for : Bir.is [102, 111, 114] (s.next T) = false) (h_print : Bir.is [112, 114, 105, 110, 116] (s.next T) = false) (h_throw : Bir.is [116, 104, 114, 111, 119] (s.next T) = false) (h_return : Bir.is [114, 101, 116, 117, 114, 110] (s.next T) = false) (h_try : Bir.is [116, 114, 121] (s.next T) = false) (g_set : Bir.is [61] ((s.name T e).2.next T) = false) (g_put : Bir.is [91] ((s.name T e).2.next T) = true) (hp : ((rd T e n).expr (s.name T e).2.adv).bind (fun p => ((rd T e n).expr ((p.2.must T e [93]).must T e [61])).bind fun q => some (St.mk 3 (s.name T e).1 [p.1, q.1] [] [], q.2.must T e [59])) = some p) : Calls Tryd.prog 131 #[pp rb] w (RPost SVal w rb tb e T p) := by
  have qN := Lib.hid (fun (w' : World) (h' : RM w' rb tb e T (s)) => rname_calls h')
  generalize (s).name T e = q at qN hp g_set g_put
  obtain ⟨⟨x, s1⟩, h1, hp⟩ := ob hp
  obtain ⟨⟨y, s2⟩, h2, hp⟩ := ob hp
  obtain rfl : (St.mk 3 q.1 [x, y] [] [], s2.must T e [59]) = p := by injection hp
  have H1 := Lib.hid h1
  have H2 := Lib.hid h2
  clear h1 h2
  have HI := Lib.hid ih
  have HQ := Lib.hid iq
  have HF := Lib.hid (RF.start h)
  replace HF := Lib.hid (HF.out.make [.int .i64 0, .string ⟨#[]⟩, .slice none 0 0, .slice none 0 0, .slice none 0 0] 98 (by decide))
  (try simp only [World.size_alloc] at HF)
  replace HF := Lib.hid (HF.out.make [.int .i64 0, .string ⟨#[]⟩, .slice none 0 0, .slice none 0 0, .slice none 0 0] 98 (by decide))
  (try simp only [World.size_alloc] at HF)
  clear h ih iq hp
  go_enter Tryd.func131, Tryd.ntmps131
  go_wp2_with fail
  refine (rtake_no HF.out.st [108, 101, 116] h_let).mono ?_
  rintro en w0 ⟨rfl, hb⟩
  replace HF := Lib.hid (HF.out.below hb)
  clear hb
  go_wp2_with fail
  refine (ris_calls HF.out.st [105, 102]).mono ?_
  rw [h_if]
  rintro en w0 ⟨rfl, hb⟩
  replace HF := Lib.hid (HF.out.below hb)
  clear hb
  go_wp2_with fail
  refine (rtake_no HF.out.st [119, 104, 105, 108, 101] h_while).mono ?_
  rintro en w0 ⟨rfl, hb⟩
  replace HF := Lib.hid (HF.out.below hb)
  clear hb
  go_wp2_with fail
  refine (rtake_no HF.out.st [102, 111, 114] h_for).mono ?_
  rintro en w0 ⟨rfl, hb⟩
  replace HF := Lib.hid (HF.out.below hb)
  clear hb
  go_wp2_with fail
  refine (rtake_no HF.out.st [112, 114, 105, 110, 116] h_print).mono ?_
  rintro en w0 ⟨rfl, hb⟩
  replace HF := Lib.hid (HF.out.below hb)
  clear hb
  go_wp2_with fail
  refine (rtake_no HF.out.st [116, 104, 114, 111, 119] h_throw).mono ?_
  rintro en w0 ⟨rfl, hb⟩
  replace HF := Lib.hid (HF.out.below hb)
  clear hb
  go_wp2_with fail
  refine (rtake_no HF.out.st [114, 101, 116, 117, 114, 110] h_return).mono ?_
  rintro en w0 ⟨rfl, hb⟩
  replace HF := Lib.hid (HF.out.below hb)
  clear hb
  go_wp2_with fail
  refine (rtake_no HF.out.st [116, 114, 121] h_try).mono ?_
  rintro en w0 ⟨rfl, hb⟩
  replace HF := Lib.hid (HF.out.below hb)
  clear hb
  go_wp2_with fail
  refine (qN.out _ HF.out.st).mono ?_
  rintro en w0 ⟨rfl, hx, hm⟩
  replace HF := Lib.hid (HF.out.call hx hm)
  clear hx hm
  obtain ⟨⟨m0, m1, m2, m3, m4⟩, mf, ml, mn⟩ := HF.out.c5 0 rfl
  replace HF := Lib.hid (HF.out.set 0 rfl 1 (.string (ba q.1)))
  go_wp2_with fail
  clear m0 m1 m2 m3 m4 mf ml mn
  refine (rtake_no HF.out.st [61] g_set).mono ?_
  rintro en w0 ⟨rfl, hb⟩
  replace HF := Lib.hid (HF.out.below hb)
  clear hb
  go_wp2_with fail
  refine (rtake_yes HF.out.st [91] g_put).mono ?_
  rintro en w0 ⟨rfl, hx, hm⟩
  replace HF := Lib.hid (HF.out.call hx hm)
  clear hx hm
  obtain ⟨⟨m0, m1, m2, m3, m4⟩, mf, ml, mn⟩ := HF.out.c5 0 rfl
  replace HF := Lib.hid (HF.out.set 0 rfl 0 (.int .i64 3))
  go_wp2_with fail
  clear m0 m1 m2 m3 m4 mf ml mn
  refine (HI.out.expr HF.out.st H1.out).mono ?_
  rintro en w1 ⟨v, rfl, ⟨kv, rfl, hr⟩, hx, hm⟩
  replace HF := Lib.hid (HF.out.callE hx hm hr)
  obtain ⟨A1, c1, rfl, _⟩ := hr.slice
  clear hx hm hr
  have sne := (HF.out.cell 1 rfl).2.2.1
  replace HF := Lib.hid (HF.out.make [.int .i64 x.kind, .int .i64 x.num, .string (ba x.name), .slice A1 x.kids.length c1] 36 (by decide))
  (try simp only [World.size_alloc] at HF)
  go_wp2_with fail
  refine (rmust_calls HF.out.st [93]).mono ?_
  rintro en w0 ⟨rfl, hx, hm⟩
  replace HF := Lib.hid (HF.out.call hx hm)
  clear hx hm
  go_wp2_with fail
  refine (rmust_calls HF.out.st [61]).mono ?_
  rintro en w0 ⟨rfl, hx, hm⟩
  replace HF := Lib.hid (HF.out.call hx hm)
  clear hx hm
  generalize hxb : w1.heap.size = xb at HF sne ⊢
  replace sne := Nat.ne_of_lt sne
  go_wp2_with fail
  obtain ⟨⟨k0, k1, k2, k3⟩, kf, kl, kn⟩ := HF.out.c4 0 rfl
  replace HF := Lib.hid HF.out.drew
  go_region_held3 (fun w' => w'.cell? ⟨xb, 0, none⟩ = some (.int .i64 x.kind) ∧ w'.cell? ⟨xb, 1, none⟩ = some (.int .i64 x.num) ∧ w'.cell? ⟨xb, 2, none⟩ = some (.string (ba x.name)) ∧ w'.cell? ⟨xb, 3, none⟩ = some (.slice A1 x.kids.length c1)) (go_keep) (first | (go_at_call 45; (with_reducible refine (HI.out.expr HF.out.st H2.out).mono ?_); rintro en w2 ⟨v, rfl, ⟨kv, rfl, hr⟩, hx, hm⟩; replace HF := Lib.hid (HF.out.callE hx hm hr); obtain ⟨A2, c2, rfl, _⟩ := hr.slice; clear hx hm hr k0 k1 k2 k3 kf kl kn; obtain ⟨⟨k0, k1, k2, k3⟩, kf, kl, kn⟩ := HF.out.c4 1 rfl; obtain ⟨⟨m0, m1, m2, m3, m4⟩, mf, ml, mn⟩ := HF.out.c5 3 rfl))
  replace HF := Lib.hid (HF.out.row2 (x := x) (y := y) (HF.out.getE 2 rfl) (HF.out.getE 0 rfl))
  (try simp only [World.size_alloc] at HF)
  replace HF := Lib.hid (HF.out.set 4 rfl 2 (.slice (some ⟨w2.heap.size, 0, none⟩) 2 2))
  rw [World.setCell_alloc_past _ _ _ _ ml] at HF
  clear k0 k1 k2 k3 kf kl kn m0 m1 m2 m3 m4 mf ml mn
  go_wp2_with fail
  refine (rmust_calls HF.out.st [59]).mono ?_
  rintro en w0 ⟨rfl, hx, hm⟩
  replace HF := Lib.hid (HF.out.call hx hm)
  clear hx hm
  obtain ⟨⟨m0, m1, m2, m3, m4⟩, mf, ml, mn⟩ := HF.out.c5 4 rfl
  obtain ⟨⟨r0, r1, r2, r3, r4⟩, rf, rl, rn⟩ := HF.out.c5 5 rfl
  go_wp2_with fail
  exact rf_endS rfl HF.out 5 rfl rfl fun W h => ⟨_, rfl, ⟨_, _, _, rfl, h.outE 0 rfl, .nil none 0, .nil none 0⟩, h.rx, h.st⟩
set_option maxHeartbeats 8000000 in
set_option maxRecDepth 100000 in
theorem rst_call (ih : RAll n) (iq : SAll n) (h : RM w rb tb e T s) (h_let : Bir.is [108, 101, 116] (s.next T) = false) (h_if : Bir.is [105, 102] (s.next T) = false) (h_while : Bir.is [119, 104, 105, 108, 101] (s.next T) = false) (h_for : Bir.is [102, 111, 114] (s.next T) = false) (h_print : Bir.is [112, 114, 105, 110, 116] (s.next T) = false) (h_throw : Bir.is [116, 104, 114, 111, 119] (s.next T) = false) (h_return : Bir.is [114, 101, 116, 117, 114, 110] (s.next T) = false) (h_try : Bir.is [116, 114, 121] (s.next T) = false) (g_set : Bir.is [61] ((s.name T e).2.next T) = false) (g_put : Bir.is [91] ((s.name T e).2.next T) = false) (g_call : Bir.is [40] ((s.name T e).2.next T) = true) (hp : ((rd T e n).args true [] (s.name T e).2.adv).bind (fun p => some (St.mk 11 (s.name T e).1 p.1 [] [], p.2.must T e [59])) = some p) : Calls Tryd.prog 131 #[pp rb] w (RPost SVal w rb tb e T p) := by
  have qN := Lib.hid (fun (w' : World) (h' : RM w' rb tb e T (s)) => rname_calls h')
  generalize (s).name T e = q at qN hp g_set g_put g_call
  obtain ⟨⟨xs, s1⟩, h1, hp⟩ := ob hp
  obtain rfl : (St.mk 11 q.1 xs [] [], s1.must T e [59]) = p := by injection hp
  have H1 := Lib.hid h1
  clear h1
  have HI := Lib.hid ih
  have HQ := Lib.hid iq
  have HF := Lib.hid (RF.start h)
  replace HF := Lib.hid (HF.out.make [.int .i64 0, .string ⟨#[]⟩, .slice none 0 0, .slice none 0 0, .slice none 0 0] 98 (by decide))
  (try simp only [World.size_alloc] at HF)
  replace HF := Lib.hid (HF.out.make [.int .i64 0, .string ⟨#[]⟩, .slice none 0 0, .slice none 0 0, .slice none 0 0] 98 (by decide))
  (try simp only [World.size_alloc] at HF)
  clear h ih iq hp
  go_enter Tryd.func131, Tryd.ntmps131
  go_wp2_with fail
  refine (rtake_no HF.out.st [108, 101, 116] h_let).mono ?_
  rintro en w0 ⟨rfl, hb⟩
  replace HF := Lib.hid (HF.out.below hb)
  clear hb
  go_wp2_with fail
  refine (ris_calls HF.out.st [105, 102]).mono ?_
  rw [h_if]
  rintro en w0 ⟨rfl, hb⟩
  replace HF := Lib.hid (HF.out.below hb)
  clear hb
  go_wp2_with fail
  refine (rtake_no HF.out.st [119, 104, 105, 108, 101] h_while).mono ?_
  rintro en w0 ⟨rfl, hb⟩
  replace HF := Lib.hid (HF.out.below hb)
  clear hb
  go_wp2_with fail
  refine (rtake_no HF.out.st [102, 111, 114] h_for).mono ?_
  rintro en w0 ⟨rfl, hb⟩
  replace HF := Lib.hid (HF.out.below hb)
  clear hb
  go_wp2_with fail
  refine (rtake_no HF.out.st [112, 114, 105, 110, 116] h_print).mono ?_
  rintro en w0 ⟨rfl, hb⟩
  replace HF := Lib.hid (HF.out.below hb)
  clear hb
  go_wp2_with fail
  refine (rtake_no HF.out.st [116, 104, 114, 111, 119] h_throw).mono ?_
  rintro en w0 ⟨rfl, hb⟩
  replace HF := Lib.hid (HF.out.below hb)
  clear hb
  go_wp2_with fail
  refine (rtake_no HF.out.st [114, 101, 116, 117, 114, 110] h_return).mono ?_
  rintro en w0 ⟨rfl, hb⟩
  replace HF := Lib.hid (HF.out.below hb)
  clear hb
  go_wp2_with fail
  refine (rtake_no HF.out.st [116, 114, 121] h_try).mono ?_
  rintro en w0 ⟨rfl, hb⟩
  replace HF := Lib.hid (HF.out.below hb)
  clear hb
  go_wp2_with fail
  refine (qN.out _ HF.out.st).mono ?_
  rintro en w0 ⟨rfl, hx, hm⟩
  replace HF := Lib.hid (HF.out.call hx hm)
  clear hx hm
  obtain ⟨⟨m0, m1, m2, m3, m4⟩, mf, ml, mn⟩ := HF.out.c5 0 rfl
  replace HF := Lib.hid (HF.out.set 0 rfl 1 (.string (ba q.1)))
  go_wp2_with fail
  clear m0 m1 m2 m3 m4 mf ml mn
  refine (rtake_no HF.out.st [61] g_set).mono ?_
  rintro en w0 ⟨rfl, hb⟩
  replace HF := Lib.hid (HF.out.below hb)
  clear hb
  go_wp2_with fail
  refine (rtake_no HF.out.st [91] g_put).mono ?_
  rintro en w0 ⟨rfl, hb⟩
  replace HF := Lib.hid (HF.out.below hb)
  clear hb
  go_wp2_with fail
  refine (rtake_yes HF.out.st [40] g_call).mono ?_
  rintro en w0 ⟨rfl, hx, hm⟩
  replace HF := Lib.hid (HF.out.call hx hm)
  clear hx hm
  obtain ⟨⟨m0, m1, m2, m3, m4⟩, mf, ml, mn⟩ := HF.out.c5 0 rfl
  replace HF := Lib.hid (HF.out.set 0 rfl 0 (.int .i64 11))
  go_wp2_with fail
  clear m0 m1 m2 m3 m4 mf ml mn
  refine (HI.out.args HF.out.st H1.out).mono ?_
  rintro en w1 ⟨v, rfl, hr, hx, hm⟩
  replace HF := Lib.hid (HF.out.callE hx hm hr)
  obtain ⟨A1, c1, rfl, _⟩ := hr.slice
  clear hx hm hr
  obtain ⟨⟨m0, m1, m2, m3, m4⟩, mf, ml, mn⟩ := HF.out.c5 1 rfl
  replace HF := Lib.hid (HF.out.set 1 rfl 2 (.slice A1 xs.length c1))
  go_wp2_with fail
  clear m0 m1 m2 m3 m4 mf ml mn
  refine (rmust_calls HF.out.st [59]).mono ?_
  rintro en w0 ⟨rfl, hx, hm⟩
  replace HF := Lib.hid (HF.out.call hx hm)
  clear hx hm
  obtain ⟨⟨m0, m1, m2, m3, m4⟩, mf, ml, mn⟩ := HF.out.c5 1 rfl
  obtain ⟨⟨r0, r1, r2, r3, r4⟩, rf, rl, rn⟩ := HF.out.c5 2 rfl
  go_wp2_with fail
  exact rf_endS rfl HF.out 2 rfl rfl fun W h => ⟨_, rfl, ⟨_, _, _, rfl, h.outE 0 rfl, .nil none 0, .nil none 0⟩, h.rx, h.st⟩
set_option maxHeartbeats 8000000 in
set_option maxRecDepth 100000 in
theorem rst_none (ih : RAll n) (iq : SAll n) (h : RM w rb tb e T s) (h_let : Bir.is [108, 101, 116] (s.next T) = false) (h_if : Bir.is [105, 102] (s.next T) = false) (h_while : Bir.is [119, 104, 105, 108, 101] (s.next T) = false) (h_for : Bir.is [102, 111, 114] (s.next T) = false) (h_print : Bir.is [112, 114, 105, 110, 116] (s.next T) = false) (h_throw : Bir.is [116, 104, 114, 111, 119] (s.next T) = false) (h_return : Bir.is [114, 101, 116, 117, 114, 110] (s.next T) = false) (h_try : Bir.is [116, 114, 121] (s.next T) = false) (g_set : Bir.is [61] ((s.name T e).2.next T) = false) (g_put : Bir.is [91] ((s.name T e).2.next T) = false) (g_call : Bir.is [40] ((s.name T e).2.next T) = false) (hp : some (St.mk 0 (s.name T e).1 [] [] [], ((s.name T e).2.stop T e 4).must T e [59]) = some p) : Calls Tryd.prog 131 #[pp rb] w (RPost SVal w rb tb e T p) := by
  have qN := Lib.hid (fun (w' : World) (h' : RM w' rb tb e T (s)) => rname_calls h')
  generalize (s).name T e = q at qN hp g_set g_put g_call
  obtain rfl : (St.mk 0 q.1 [] [] [], (q.2.stop T e 4).must T e [59]) = p := by injection hp
  have HI := Lib.hid ih
  have HQ := Lib.hid iq
  have HF := Lib.hid (RF.start h)
  replace HF := Lib.hid (HF.out.make [.int .i64 0, .string ⟨#[]⟩, .slice none 0 0, .slice none 0 0, .slice none 0 0] 98 (by decide))
  (try simp only [World.size_alloc] at HF)
  replace HF := Lib.hid (HF.out.make [.int .i64 0, .string ⟨#[]⟩, .slice none 0 0, .slice none 0 0, .slice none 0 0] 98 (by decide))
  (try simp only [World.size_alloc] at HF)
  clear h ih iq hp
  go_enter Tryd.func131, Tryd.ntmps131
  go_wp2_with fail
  refine (rtake_no HF.out.st [108, 101, 116] h_let).mono ?_
  rintro en w0 ⟨rfl, hb⟩
  replace HF := Lib.hid (HF.out.below hb)
  clear hb
  go_wp2_with fail
  refine (ris_calls HF.out.st [105, 102]).mono ?_
  rw [h_if]
  rintro en w0 ⟨rfl, hb⟩
  replace HF := Lib.hid (HF.out.below hb)
  clear hb
  go_wp2_with fail
  refine (rtake_no HF.out.st [119, 104, 105, 108, 101] h_while).mono ?_
  rintro en w0 ⟨rfl, hb⟩
  replace HF := Lib.hid (HF.out.below hb)
  clear hb
  go_wp2_with fail
  refine (rtake_no HF.out.st [102, 111, 114] h_for).mono ?_
  rintro en w0 ⟨rfl, hb⟩
  replace HF := Lib.hid (HF.out.below hb)
  clear hb
  go_wp2_with fail
  refine (rtake_no HF.out.st [112, 114, 105, 110, 116] h_print).mono ?_
  rintro en w0 ⟨rfl, hb⟩
  replace HF := Lib.hid (HF.out.below hb)
  clear hb
  go_wp2_with fail
  refine (rtake_no HF.out.st [116, 104, 114, 111, 119] h_throw).mono ?_
  rintro en w0 ⟨rfl, hb⟩
  replace HF := Lib.hid (HF.out.below hb)
  clear hb
  go_wp2_with fail
  refine (rtake_no HF.out.st [114, 101, 116, 117, 114, 110] h_return).mono ?_
  rintro en w0 ⟨rfl, hb⟩
  replace HF := Lib.hid (HF.out.below hb)
  clear hb
  go_wp2_with fail
  refine (rtake_no HF.out.st [116, 114, 121] h_try).mono ?_
  rintro en w0 ⟨rfl, hb⟩
  replace HF := Lib.hid (HF.out.below hb)
  clear hb
  go_wp2_with fail
  refine (qN.out _ HF.out.st).mono ?_
  rintro en w0 ⟨rfl, hx, hm⟩
  replace HF := Lib.hid (HF.out.call hx hm)
  clear hx hm
  obtain ⟨⟨m0, m1, m2, m3, m4⟩, mf, ml, mn⟩ := HF.out.c5 0 rfl
  replace HF := Lib.hid (HF.out.set 0 rfl 1 (.string (ba q.1)))
  go_wp2_with fail
  clear m0 m1 m2 m3 m4 mf ml mn
  refine (rtake_no HF.out.st [61] g_set).mono ?_
  rintro en w0 ⟨rfl, hb⟩
  replace HF := Lib.hid (HF.out.below hb)
  clear hb
  go_wp2_with fail
  refine (rtake_no HF.out.st [91] g_put).mono ?_
  rintro en w0 ⟨rfl, hb⟩
  replace HF := Lib.hid (HF.out.below hb)
  clear hb
  go_wp2_with fail
  refine (rtake_no HF.out.st [40] g_call).mono ?_
  rintro en w0 ⟨rfl, hb⟩
  replace HF := Lib.hid (HF.out.below hb)
  clear hb
  go_wp2_with fail
  refine (rstop_calls HF.out.st 4 (by omega)).mono ?_
  rintro en w0 ⟨rfl, hx, hm⟩
  replace HF := Lib.hid (HF.out.call hx hm)
  clear hx hm
  go_wp2_with fail
  refine (rmust_calls HF.out.st [59]).mono ?_
  rintro en w0 ⟨rfl, hx, hm⟩
  replace HF := Lib.hid (HF.out.call hx hm)
  clear hx hm
  obtain ⟨⟨m0, m1, m2, m3, m4⟩, mf, ml, mn⟩ := HF.out.c5 0 rfl
  obtain ⟨⟨r0, r1, r2, r3, r4⟩, rf, rl, rn⟩ := HF.out.c5 1 rfl
  go_wp2_with fail
  exact rf_endS rfl HF.out 1 rfl rfl fun W h => ⟨_, rfl, ⟨_, _, _, rfl, .nil none 0, .nil none 0, .nil none 0⟩, h.rx, h.st⟩
theorem rstmt_step (ih : RAll n) (iq : SAll n) (h : RM w rb tb e T s) (hp : (rd T e (n + 1)).stmt s = some p) : Calls Tryd.prog 131 #[pp rb] w (RPost SVal w rb tb e T p) := by
  replace hp : rStmt T e (rd T e n) s = some p := hp
  unfold rStmt at hp
  cases h_let : Bir.is [108, 101, 116] (s.next T) with
  | true =>
    rw [h_let] at hp
    exact rst_let ih iq h h_let hp
  | false =>
    rw [h_let] at hp
    simp only [Bool.false_eq_true, if_false] at hp
    cases h_if : Bir.is [105, 102] (s.next T) with
    | true =>
      rw [h_if] at hp
      exact rst_if ih iq h h_let h_if hp
    | false =>
      rw [h_if] at hp
      simp only [Bool.false_eq_true, if_false] at hp
      cases h_while : Bir.is [119, 104, 105, 108, 101] (s.next T) with
      | true =>
        rw [h_while] at hp
        exact rst_while ih iq h h_let h_if h_while hp
      | false =>
        rw [h_while] at hp
        simp only [Bool.false_eq_true, if_false] at hp
        cases h_for : Bir.is [102, 111, 114] (s.next T) with
        | true =>
          rw [h_for] at hp
          exact rst_for ih iq h h_let h_if h_while h_for hp
        | false =>
          rw [h_for] at hp
          simp only [Bool.false_eq_true, if_false] at hp
          cases h_print : Bir.is [112, 114, 105, 110, 116] (s.next T) with
          | true =>
            rw [h_print] at hp
            exact rst_print ih iq h h_let h_if h_while h_for h_print hp
          | false =>
            rw [h_print] at hp
            simp only [Bool.false_eq_true, if_false] at hp
            cases h_throw : Bir.is [116, 104, 114, 111, 119] (s.next T) with
            | true =>
              rw [h_throw] at hp
              exact rst_throw ih iq h h_let h_if h_while h_for h_print h_throw hp
            | false =>
              rw [h_throw] at hp
              simp only [Bool.false_eq_true, if_false] at hp
              cases h_return : Bir.is [114, 101, 116, 117, 114, 110] (s.next T) with
              | true =>
                rw [h_return] at hp
                exact rst_return ih iq h h_let h_if h_while h_for h_print h_throw h_return hp
              | false =>
                rw [h_return] at hp
                simp only [Bool.false_eq_true, if_false] at hp
                cases h_try : Bir.is [116, 114, 121] (s.next T) with
                | true =>
                  rw [h_try] at hp
                  exact rst_try ih iq h h_let h_if h_while h_for h_print h_throw h_return h_try hp
                | false =>
                  rw [h_try] at hp
                  simp only [Bool.false_eq_true, if_false] at hp
                  unfold rNamed at hp
                  cases g_set : Bir.is [61] ((s.name T e).2.next T) with
                  | true =>
                    rw [g_set] at hp
                    exact rst_set ih iq h h_let h_if h_while h_for h_print h_throw h_return h_try g_set hp
                  | false =>
                    rw [g_set] at hp
                    simp only [Bool.false_eq_true, if_false] at hp
                    cases g_put : Bir.is [91] ((s.name T e).2.next T) with
                    | true =>
                      rw [g_put] at hp
                      exact rst_put ih iq h h_let h_if h_while h_for h_print h_throw h_return h_try g_set g_put hp
                    | false =>
                      rw [g_put] at hp
                      simp only [Bool.false_eq_true, if_false] at hp
                      cases g_call : Bir.is [40] ((s.name T e).2.next T) with
                      | true =>
                        rw [g_call] at hp
                        exact rst_call ih iq h h_let h_if h_while h_for h_print h_throw h_return h_try g_set g_put g_call hp
                      | false =>
                        rw [g_call] at hp
                        simp only [Bool.false_eq_true, if_false] at hp
                        exact rst_none ih iq h h_let h_if h_while h_for h_print h_throw h_return h_try g_set g_put g_call hp
theorem sall : ∀ n, n ≤ 1000000000 → SAll n := by
  intro n
  induction n using Nat.strongRecOn with
  | _ n ih =>
    intro hn
    have iha : ∀ m, m < n → SAll m := fun m hm => ih m hm (by omega)
    refine ⟨fun {w rb tb e T s p} h hp => ?_, fun {w rb tb e T s p} h hp => rblock_step hn iha h hp, fun {w rb tb e T s p} h hp => ?_⟩
    · cases n with
      | zero => exact absurd hp (by simp [rd])
      | succ m => exact rstmt_step (rall m (by omega)) (iha m (by omega)) h hp
    · cases n with
      | zero => exact absurd hp (by simp [rd])
      | succ m => exact rifs_step (rall m (by omega)) (iha m (by omega)) h hp
end
end Go.Proofs.YtdijffojppjmfaaDoor
set_option linter.unusedVariables false
set_option linter.unusedSimpArgs false
namespace Go.Proofs.YtdijffojppjmfaaDoor
open Go.RowKit Bir Go.BW Go.Proofs.YtdijffojppjmfaaDoorW.PrintLast
def FVal (w : World) (ok : Nat → Prop) (v : Value) (x : Bir.Fn) : Prop := ∃ pv bv, v = .agg #[.string (ba x.name), pv, bv] ∧ StrRow w ok pv x.params ∧ SRow w ok bv x.body
def PVal (w : World) (ok : Nat → Prop) (v : Value) (x : Pr) : Prop := ∃ av fv, v = .agg #[av, fv] ∧ ArrRow w ok av x.arrays ∧ FnRow w ok fv x.funcs
abbrev zF : List Value := [.string ⟨#[]⟩, .slice none 0 0, .slice none 0 0]
section
variable {w : World} {rb tb e n : Nat} {T : List Tok} {s : RS}
set_option maxHeartbeats 8000000 in
set_option maxRecDepth 100000 in
theorem rfunc_step {p : Bir.Fn × RS} (hn9 : n ≤ 1000000000) (h : RM w rb tb e T s) (hp : rFunc T e n s = some p) : Calls Tryd.prog 80 #[pp rb] w (RPost FVal w rb tb e T p) := by
  unfold rFunc at hp
  obtain ⟨⟨ps, s2⟩, h1, hp⟩ := ob hp
  obtain ⟨⟨b, s3⟩, h2, hp⟩ := ob hp
  obtain rfl : (⟨(s.name T e).1, ps, b⟩, s3) = p := by injection hp
  have HNM := Lib.hid (fun (w' : World) (h' : RM w' rb tb e T s) => rname_calls h')
  generalize s.name T e = q at HNM h1
  have HP := Lib.hid h1
  have HB : Hid (rBlock T e (rd T e n) s2 = some (b, s3)) := Lib.hid h2
  have HF := Lib.hid (((RF.start h).make zF 76 (by decide)).make zF 76 (by decide))
  rw [World.size_alloc] at HF
  clear hp h h1 h2
  go_enter Tryd.func80, Tryd.ntmps80
  go_wp2_with fail
  refine (HNM.out _ HF.out.st).mono ?_
  rintro en w1 ⟨rfl, hx, hm⟩
  replace HF := Lib.hid (HF.out.call hx hm)
  clear hx hm
  obtain ⟨⟨k0, k1, k2⟩, kf, kl, kn⟩ := HF.out.c3 0 rfl
  replace HF := Lib.hid (HF.out.set 0 rfl 0 (.string (ba q.1)))
  go_wp2_with fail
  clear k0 k1 k2 kf kl kn
  refine (rmust_calls HF.out.st [40]).mono ?_
  rintro en w1 ⟨rfl, hx, hm⟩
  replace HF := Lib.hid (HF.out.call hx hm)
  clear hx hm
  go_wp2_with fail
  go_loopg [4] n (fun gk fv wr => ∃ first xs s' v, RF w wr rb tb e T s' [.accN v xs, .blk (w.heap.size + 1) 76 [.string (ba q.1), v, .slice none 0 0], .blk w.heap.size 76 zF] ∧ fv = .bool first ∧ Hid (rParams T e gk first xs s' = some (ps, s2)) ∧ xs.length + gk ≤ n)
  case atStart => exact ⟨true, [], _, _, HF.out.acc0N, rfl, HP, by simp⟩
  case round =>
    obtain ⟨first, xs, s', v, hrf, rfl, hg, hlen⟩ := hrel
    clear HF HP
    cases gk with
    | zero => exact absurd hg.out (by simp [rParams])
    | succ m =>
      have hgm := hg.out
      unfold rParams at hgm
      have HF := Lib.hid hrf
      have hrbl := hrf.st.rb_lt
      have hwz := hrf.size
      obtain ⟨A0, c0, v0, ⟨q0, q1, q2, q3, q4, q5⟩, _⟩ := hrf.st.cells
      obtain ⟨A, c, rfl, _⟩ := VRow.slice (hrf.rowOfN 0 rfl)
      clear hg hrf q0 q1 q2 q4 q5
      cases hm : moreR T first s' with
      | false =>
        rw [hm] at hgm
        simp only [Bool.false_eq_true, if_false] at hgm
        obtain ⟨rfl, rfl⟩ : xs = ps ∧ s'.must T e [41] = s2 := by injection hgm with hgm; injection hgm with h1 h2; exact ⟨h1, h2⟩
        clear hgm
        by_cases hk : s'.k = 0
        · rw [hk] at q3
          cases first with
          | true =>
            have h41 : Bir.is [41] (s'.next T) = true := by simpa [moreR, hk] using hm
            clear hm hk
            go_wp2_with fail
            refine (ris_calls HF.out.st [41]).mono ?_
            rw [h41]
            rintro en w2 ⟨rfl, hb⟩
            replace HF := Lib.hid (HF.out.below hb)
            clear hb h41
            go_wp2_with fail
            refine (rmust_calls HF.out.st [41]).mono ?_
            rintro en w3 ⟨rfl, hx, hm⟩
            replace HF := Lib.hid (HF.out.call hx hm)
            clear hx hm
            go_wp2_with fail
            refine ((sall n hn9).block HF.out.st HB.out).mono ?_
            rintro en w5 ⟨v, rfl, hr, hx, hm⟩
            replace HF := Lib.hid (HF.out.callB hx hm hr)
            obtain ⟨A5, c5, rfl, _⟩ := SRow.slice hr
            clear hx hm hr
            obtain ⟨⟨k0, k1, k2⟩, kf, kl, kn⟩ := HF.out.c3 2 rfl
            obtain ⟨⟨r0, r1, r2⟩, rf, rl, rn⟩ := HF.out.c3 3 rfl
            replace HF := Lib.hid (HF.out.set 2 rfl 2 (.slice A5 b.length c5))
            go_wp2_with fail
            exact rf_endF rfl HF.out 3 rfl rfl fun W h => ⟨_, rfl, ⟨_, _, rfl, h.rowOfN 1 rfl, h.outB 0 rfl⟩, h.rx, h.st⟩
          | false =>
            have h44 : Bir.is [44] (s'.next T) = false := by simpa [moreR, hk] using hm
            clear hm hk
            go_wp2_with fail
            refine (rtake_no HF.out.st [44] h44).mono ?_
            rintro en w2 ⟨rfl, hb⟩
            replace HF := Lib.hid (HF.out.below hb)
            clear hb h44
            go_wp2_with fail
            refine (rmust_calls HF.out.st [41]).mono ?_
            rintro en w3 ⟨rfl, hx, hm⟩
            replace HF := Lib.hid (HF.out.call hx hm)
            clear hx hm
            go_wp2_with fail
            refine ((sall n hn9).block HF.out.st HB.out).mono ?_
            rintro en w5 ⟨v, rfl, hr, hx, hm⟩
            replace HF := Lib.hid (HF.out.callB hx hm hr)
            obtain ⟨A5, c5, rfl, _⟩ := SRow.slice hr
            clear hx hm hr
            obtain ⟨⟨k0, k1, k2⟩, kf, kl, kn⟩ := HF.out.c3 2 rfl
            obtain ⟨⟨r0, r1, r2⟩, rf, rl, rn⟩ := HF.out.c3 3 rfl
            replace HF := Lib.hid (HF.out.set 2 rfl 2 (.slice A5 b.length c5))
            go_wp2_with fail
            exact rf_endF rfl HF.out 3 rfl rfl fun W h => ⟨_, rfl, ⟨_, _, rfl, h.rowOfN 1 rfl, h.outB 0 rfl⟩, h.rx, h.st⟩
        · have e0 : ((s'.k : Int) == 0) = false := beq_eq_false_iff_ne.2 (by omega)
          clear hm hk
          go_wp2_with fail
          refine (rmust_calls HF.out.st [41]).mono ?_
          rintro en w3 ⟨rfl, hx, hm⟩
          replace HF := Lib.hid (HF.out.call hx hm)
          clear hx hm
          go_wp2_with fail
          refine ((sall n hn9).block HF.out.st HB.out).mono ?_
          rintro en w5 ⟨v, rfl, hr, hx, hm⟩
          replace HF := Lib.hid (HF.out.callB hx hm hr)
          obtain ⟨A5, c5, rfl, _⟩ := SRow.slice hr
          clear hx hm hr
          obtain ⟨⟨k0, k1, k2⟩, kf, kl, kn⟩ := HF.out.c3 2 rfl
          obtain ⟨⟨r0, r1, r2⟩, rf, rl, rn⟩ := HF.out.c3 3 rfl
          replace HF := Lib.hid (HF.out.set 2 rfl 2 (.slice A5 b.length c5))
          go_wp2_with fail
          exact rf_endF rfl HF.out 3 rfl rfl fun W h => ⟨_, rfl, ⟨_, _, rfl, h.rowOfN 1 rfl, h.outB 0 rfl⟩, h.rx, h.st⟩
      | true =>
        rw [hm] at hgm
        simp only [if_true] at hgm
        have hk : s'.k = 0 := by
          unfold moreR at hm
          cases hkk : (s'.k == 0) with
          | true => exact beq_iff_eq.1 hkk
          | false => rw [hkk] at hm; cases hm
        rw [hk] at q3
        cases first with
        | true =>
          have h41 : Bir.is [41] (s'.next T) = false := by simpa [moreR, hk] using hm
          have HG : Hid (rParams T e m false (xs ++ [((if 8 ≤ xs.length ∧ kindOf (s'.next T) = 1 then s'.stop T e 3 else s').name T e).1]) ((if 8 ≤ xs.length ∧ kindOf (s'.next T) = 1 then s'.stop T e 3 else s').name T e).2 = some (ps, s2)) := Lib.hid hgm
          clear hgm hm hk
          go_wp2_with fail
          refine (ris_calls HF.out.st [41]).mono ?_
          rw [h41]
          rintro en w2 ⟨rfl, hb⟩
          replace HF := Lib.hid (HF.out.below hb)
          clear hb h41
          generalize s' = s1 at HF HG
          by_cases h8 : 8 ≤ xs.length
          · have e8 : decide ((8 : Int) ≤ (xs.length : Int)) = true := by simp; omega
            have e8' : decide ((xs.length : Int) < 8) = false := by simp; omega
            have HK := Lib.hid (fun (w' : World) (h' : RM w' rb tb e T s1) => rkind_calls h')
            by_cases hk1 : kindOf (s1.next T) = 1
            · have e1 : ((kindOf (s1.next T) : Int) == 1) = true := by simp [hk1]
              rw [if_pos ⟨h8, hk1⟩] at HG
              clear h8 hk1
              generalize kindOf (s1.next T) = kd at HK e1
              obtain ⟨⟨k0, k1, k2⟩, kf, kl, kn⟩ := HF.out.c3 1 rfl
              go_wp2_with fail
              refine (HK.out _ HF.out.st).mono ?_
              rintro en w3 ⟨rfl, hb⟩
              replace HF := Lib.hid (HF.out.below hb)
              clear hb k0 k1 k2 kf kl kn
              go_wp2_with fail
              refine (rstop_calls HF.out.st 3 (by omega)).mono ?_
              rintro en w4 ⟨rfl, hx, hm⟩
              replace HF := Lib.hid (HF.out.call hx hm)
              clear hx hm
              generalize s1.stop T e 3 = s1 at HF HG
              obtain ⟨⟨k0, k1, k2⟩, kf, kl, kn⟩ := HF.out.c3 1 rfl
              go_wp2_with fail
              refine wp_region_last_drew (S := fun w' => w'.cell? ⟨w.heap.size + 1, 1, none⟩ = some (.slice A xs.length c)) (ds := [5, 6, 7]) (by kernel_rfl) k1 (fun hHeld => ?_)
              refine last_pure (i := 0) (v := .pointer (some ⟨w.heap.size + 1, 1, none⟩)) rfl (by kernel_rfl) (by kernel_rfl) (by kernel_rfl) (fun _ _ _ h => h) (Or.inl ⟨by rfl, ?_⟩) ?_
              · intro w'
                go_simp
              (try simp only [Act.put, List.setIfInBounds_toArray, List.set_cons_zero, List.set_cons_succ])
              refine wpAnyLast_take (i := 1) (v := .slice A xs.length c) rfl (by kernel_rfl) (by kernel_rfl) (by kernel_rfl) (by kernel_rfl) (by kernel_rfl) (fun _ _ _ h => h) (Or.inl ⟨by rfl, ?_⟩) hHeld ?_
              · intro w' a1
                go_simp
              (try simp only [Act.put, List.setIfInBounds_toArray, List.set_cons_zero, List.set_cons_succ])
              refine last_pure (i := 2) (v := pp rb) rfl (by kernel_rfl) (by kernel_rfl) (by kernel_rfl) (fun _ _ _ h => h) (Or.inl ⟨by rfl, ?_⟩) ?_
              · intro w'
                go_simp
              (try simp only [Act.put, List.setIfInBounds_toArray, List.set_cons_zero, List.set_cons_succ])
              refine wpAnyLast_ready (rs := [3]) (by kernel_rfl) (by simp) ?_
              refine AllReadyL.cons rfl (by decide) (fun K hK => ?_) AllReadyL.nil
              go_simp
              replace HF := Lib.hid HF.out.drew
              refine ((rname_calls HF.out.st)).mono ?_
              rintro en w9 ⟨rfl, hx, hm⟩
              replace HF := Lib.hid (HF.out.call hx hm)
              clear hx hm k0 k1 k2 kf kl kn
              obtain ⟨⟨k0, k1, k2⟩, kf, kl, kn⟩ := HF.out.c3 1 rfl
              refine hK.out _ _ k1 (fun _ => ?_)
              (try simp only [Act.put, List.setIfInBounds_toArray, List.set_cons_zero, List.set_cons_succ])
              refine wpAnyLast_ready (rs := [4]) (by kernel_rfl) (by simp) ?_
              refine AllReadyL.cons rfl (by decide) (fun K4 hK4 => ?_) AllReadyL.nil
              go_simp
              refine hK4.out _ _ (cell_ext k1 ((Ext.refl (fun _ => False) _).alloc _) id) (fun _ => ?_)
              (try simp only [Act.put, List.setIfInBounds_toArray, List.set_cons_zero, List.set_cons_succ])
              refine wpAnyLast_ready (rs := [5]) (by kernel_rfl) (by simp) ?_
              refine AllReadyL.cons_last rfl (by decide) (fun K5 hK5 => ?_) AllReadyL.nil
              rw [if_pos (by rfl)]
              refine append_one_op _ w.heap.size _ _ 53 9 _ 1 16 rfl Tryd.underlying53 infoStr rfl (by decide) (by decide) (.slice A xs.length c) xs.length (strCells xs) [.string (ba (s1.name T e).1)] rfl rfl rfl (by simp [Value.oneCell']) (HF.out.accN 0 rfl) HF.out.size (by omega) ?_
              intro v1 w8 hown hx8 hat
              refine hK5.out _ _ ?_
              replace HF := Lib.hid (HF.out.appNx 0 rfl (x := (s1.name T e).1) hown hx8 hat)
              obtain ⟨A8, c8, rfl, _⟩ := VRow.slice (HF.out.rowOfN 0 rfl)
              simp only [List.length_append, List.length_cons, List.length_nil] at HF
              clear hown hx8 hat k0 k1 k2 kf kl kn
              obtain ⟨⟨k0, k1, k2⟩, kf, kl, kn⟩ := HF.out.c3 1 rfl
              (try simp only [Act.put, List.setIfInBounds_toArray, List.set_cons_zero, List.set_cons_succ])
              refine wpAnyLast_ready (rs := [6]) (by kernel_rfl) (by simp) ?_
              refine AllReadyL.cons_last rfl (by decide) (fun K6 hK6 => ?_) AllReadyL.nil
              go_simp
              refine hK6.out _ _ ?_
              (try simp only [Act.put, List.setIfInBounds_toArray, List.set_cons_zero, List.set_cons_succ])
              refine wpAnyLast_ready (rs := [7]) (by kernel_rfl) (by simp) ?_
              refine AllReadyL.cons_last rfl (by decide) (fun K7 hK7 => ?_) AllReadyL.nil
              go_simp
              refine hK7.out _ _ ?_
              refine wpAnyLast_done (by kernel_rfl) ?_ _
              (try simp only [Act.put, List.setIfInBounds_toArray, List.set_cons_zero, List.set_cons_succ])
              replace HF := Lib.hid (HF.out.set 1 rfl 1 (.slice A8 (xs.length + 1) c8))
              clear k0 k1 k2 kf kl kn
              go_wp2_with fail
              go_roundg m
              case measure => omega
              case rel => exact ⟨false, xs ++ [(s1.name T e).1], (s1.name T e).2, _, (by simpa [List.length_append] using HF.out), rfl, HG, by simp; omega⟩
            · have e1 : ((kindOf (s1.next T) : Int) == 1) = false := beq_eq_false_iff_ne.2 (by omega)
              rw [if_neg (fun hh => hk1 hh.2)] at HG
              clear h8 hk1
              generalize kindOf (s1.next T) = kd at HK e1
              obtain ⟨⟨k0, k1, k2⟩, kf, kl, kn⟩ := HF.out.c3 1 rfl
              go_wp2_with fail
              refine (HK.out _ HF.out.st).mono ?_
              rintro en w3 ⟨rfl, hb⟩
              replace HF := Lib.hid (HF.out.below hb)
              clear hb k0 k1 k2 kf kl kn
              obtain ⟨⟨k0, k1, k2⟩, kf, kl, kn⟩ := HF.out.c3 1 rfl
              go_wp2_with fail
              refine wp_region_last_drew (S := fun w' => w'.cell? ⟨w.heap.size + 1, 1, none⟩ = some (.slice A xs.length c)) (ds := [5, 6, 7]) (by kernel_rfl) k1 (fun hHeld => ?_)
              refine last_pure (i := 0) (v := .pointer (some ⟨w.heap.size + 1, 1, none⟩)) rfl (by kernel_rfl) (by kernel_rfl) (by kernel_rfl) (fun _ _ _ h => h) (Or.inl ⟨by rfl, ?_⟩) ?_
              · intro w'
                go_simp
              (try simp only [Act.put, List.setIfInBounds_toArray, List.set_cons_zero, List.set_cons_succ])
              refine wpAnyLast_take (i := 1) (v := .slice A xs.length c) rfl (by kernel_rfl) (by kernel_rfl) (by kernel_rfl) (by kernel_rfl) (by kernel_rfl) (fun _ _ _ h => h) (Or.inl ⟨by rfl, ?_⟩) hHeld ?_
              · intro w' a1
                go_simp
              (try simp only [Act.put, List.setIfInBounds_toArray, List.set_cons_zero, List.set_cons_succ])
              refine last_pure (i := 2) (v := pp rb) rfl (by kernel_rfl) (by kernel_rfl) (by kernel_rfl) (fun _ _ _ h => h) (Or.inl ⟨by rfl, ?_⟩) ?_
              · intro w'
                go_simp
              (try simp only [Act.put, List.setIfInBounds_toArray, List.set_cons_zero, List.set_cons_succ])
              refine wpAnyLast_ready (rs := [3]) (by kernel_rfl) (by simp) ?_
              refine AllReadyL.cons rfl (by decide) (fun K hK => ?_) AllReadyL.nil
              go_simp
              replace HF := Lib.hid HF.out.drew
              refine ((rname_calls HF.out.st)).mono ?_
              rintro en w9 ⟨rfl, hx, hm⟩
              replace HF := Lib.hid (HF.out.call hx hm)
              clear hx hm k0 k1 k2 kf kl kn
              obtain ⟨⟨k0, k1, k2⟩, kf, kl, kn⟩ := HF.out.c3 1 rfl
              refine hK.out _ _ k1 (fun _ => ?_)
              (try simp only [Act.put, List.setIfInBounds_toArray, List.set_cons_zero, List.set_cons_succ])
              refine wpAnyLast_ready (rs := [4]) (by kernel_rfl) (by simp) ?_
              refine AllReadyL.cons rfl (by decide) (fun K4 hK4 => ?_) AllReadyL.nil
              go_simp
              refine hK4.out _ _ (cell_ext k1 ((Ext.refl (fun _ => False) _).alloc _) id) (fun _ => ?_)
              (try simp only [Act.put, List.setIfInBounds_toArray, List.set_cons_zero, List.set_cons_succ])
              refine wpAnyLast_ready (rs := [5]) (by kernel_rfl) (by simp) ?_
              refine AllReadyL.cons_last rfl (by decide) (fun K5 hK5 => ?_) AllReadyL.nil
              rw [if_pos (by rfl)]
              refine append_one_op _ w.heap.size _ _ 53 9 _ 1 16 rfl Tryd.underlying53 infoStr rfl (by decide) (by decide) (.slice A xs.length c) xs.length (strCells xs) [.string (ba (s1.name T e).1)] rfl rfl rfl (by simp [Value.oneCell']) (HF.out.accN 0 rfl) HF.out.size (by omega) ?_
              intro v1 w8 hown hx8 hat
              refine hK5.out _ _ ?_
              replace HF := Lib.hid (HF.out.appNx 0 rfl (x := (s1.name T e).1) hown hx8 hat)
              obtain ⟨A8, c8, rfl, _⟩ := VRow.slice (HF.out.rowOfN 0 rfl)
              simp only [List.length_append, List.length_cons, List.length_nil] at HF
              clear hown hx8 hat k0 k1 k2 kf kl kn
              obtain ⟨⟨k0, k1, k2⟩, kf, kl, kn⟩ := HF.out.c3 1 rfl
              (try simp only [Act.put, List.setIfInBounds_toArray, List.set_cons_zero, List.set_cons_succ])
              refine wpAnyLast_ready (rs := [6]) (by kernel_rfl) (by simp) ?_
              refine AllReadyL.cons_last rfl (by decide) (fun K6 hK6 => ?_) AllReadyL.nil
              go_simp
              refine hK6.out _ _ ?_
              (try simp only [Act.put, List.setIfInBounds_toArray, List.set_cons_zero, List.set_cons_succ])
              refine wpAnyLast_ready (rs := [7]) (by kernel_rfl) (by simp) ?_
              refine AllReadyL.cons_last rfl (by decide) (fun K7 hK7 => ?_) AllReadyL.nil
              go_simp
              refine hK7.out _ _ ?_
              refine wpAnyLast_done (by kernel_rfl) ?_ _
              (try simp only [Act.put, List.setIfInBounds_toArray, List.set_cons_zero, List.set_cons_succ])
              replace HF := Lib.hid (HF.out.set 1 rfl 1 (.slice A8 (xs.length + 1) c8))
              clear k0 k1 k2 kf kl kn
              go_wp2_with fail
              go_roundg m
              case measure => omega
              case rel => exact ⟨false, xs ++ [(s1.name T e).1], (s1.name T e).2, _, (by simpa [List.length_append] using HF.out), rfl, HG, by simp; omega⟩
          · have e8 : decide ((8 : Int) ≤ (xs.length : Int)) = false := by simp; omega
            have e8' : decide ((xs.length : Int) < 8) = true := by simp; omega
            rw [if_neg (fun hh => h8 hh.1)] at HG
            clear h8
            obtain ⟨⟨k0, k1, k2⟩, kf, kl, kn⟩ := HF.out.c3 1 rfl
            go_wp2_with fail
            refine wp_region_last_drew (S := fun w' => w'.cell? ⟨w.heap.size + 1, 1, none⟩ = some (.slice A xs.length c)) (ds := [5, 6, 7]) (by kernel_rfl) k1 (fun hHeld => ?_)
            refine last_pure (i := 0) (v := .pointer (some ⟨w.heap.size + 1, 1, none⟩)) rfl (by kernel_rfl) (by kernel_rfl) (by kernel_rfl) (fun _ _ _ h => h) (Or.inl ⟨by rfl, ?_⟩) ?_
            · intro w'
              go_simp
            (try simp only [Act.put, List.setIfInBounds_toArray, List.set_cons_zero, List.set_cons_succ])
            refine wpAnyLast_take (i := 1) (v := .slice A xs.length c) rfl (by kernel_rfl) (by kernel_rfl) (by kernel_rfl) (by kernel_rfl) (by kernel_rfl) (fun _ _ _ h => h) (Or.inl ⟨by rfl, ?_⟩) hHeld ?_
            · intro w' a1
              go_simp
            (try simp only [Act.put, List.setIfInBounds_toArray, List.set_cons_zero, List.set_cons_succ])
            refine last_pure (i := 2) (v := pp rb) rfl (by kernel_rfl) (by kernel_rfl) (by kernel_rfl) (fun _ _ _ h => h) (Or.inl ⟨by rfl, ?_⟩) ?_
            · intro w'
              go_simp
            (try simp only [Act.put, List.setIfInBounds_toArray, List.set_cons_zero, List.set_cons_succ])
            refine wpAnyLast_ready (rs := [3]) (by kernel_rfl) (by simp) ?_
            refine AllReadyL.cons rfl (by decide) (fun K hK => ?_) AllReadyL.nil
            go_simp
            replace HF := Lib.hid HF.out.drew
            refine ((rname_calls HF.out.st)).mono ?_
            rintro en w9 ⟨rfl, hx, hm⟩
            replace HF := Lib.hid (HF.out.call hx hm)
            clear hx hm k0 k1 k2 kf kl kn
            obtain ⟨⟨k0, k1, k2⟩, kf, kl, kn⟩ := HF.out.c3 1 rfl
            refine hK.out _ _ k1 (fun _ => ?_)
            (try simp only [Act.put, List.setIfInBounds_toArray, List.set_cons_zero, List.set_cons_succ])
            refine wpAnyLast_ready (rs := [4]) (by kernel_rfl) (by simp) ?_
            refine AllReadyL.cons rfl (by decide) (fun K4 hK4 => ?_) AllReadyL.nil
            go_simp
            refine hK4.out _ _ (cell_ext k1 ((Ext.refl (fun _ => False) _).alloc _) id) (fun _ => ?_)
            (try simp only [Act.put, List.setIfInBounds_toArray, List.set_cons_zero, List.set_cons_succ])
            refine wpAnyLast_ready (rs := [5]) (by kernel_rfl) (by simp) ?_
            refine AllReadyL.cons_last rfl (by decide) (fun K5 hK5 => ?_) AllReadyL.nil
            rw [if_pos (by rfl)]
            refine append_one_op _ w.heap.size _ _ 53 9 _ 1 16 rfl Tryd.underlying53 infoStr rfl (by decide) (by decide) (.slice A xs.length c) xs.length (strCells xs) [.string (ba (s1.name T e).1)] rfl rfl rfl (by simp [Value.oneCell']) (HF.out.accN 0 rfl) HF.out.size (by omega) ?_
            intro v1 w8 hown hx8 hat
            refine hK5.out _ _ ?_
            replace HF := Lib.hid (HF.out.appNx 0 rfl (x := (s1.name T e).1) hown hx8 hat)
            obtain ⟨A8, c8, rfl, _⟩ := VRow.slice (HF.out.rowOfN 0 rfl)
            simp only [List.length_append, List.length_cons, List.length_nil] at HF
            clear hown hx8 hat k0 k1 k2 kf kl kn
            obtain ⟨⟨k0, k1, k2⟩, kf, kl, kn⟩ := HF.out.c3 1 rfl
            (try simp only [Act.put, List.setIfInBounds_toArray, List.set_cons_zero, List.set_cons_succ])
            refine wpAnyLast_ready (rs := [6]) (by kernel_rfl) (by simp) ?_
            refine AllReadyL.cons_last rfl (by decide) (fun K6 hK6 => ?_) AllReadyL.nil
            go_simp
            refine hK6.out _ _ ?_
            (try simp only [Act.put, List.setIfInBounds_toArray, List.set_cons_zero, List.set_cons_succ])
            refine wpAnyLast_ready (rs := [7]) (by kernel_rfl) (by simp) ?_
            refine AllReadyL.cons_last rfl (by decide) (fun K7 hK7 => ?_) AllReadyL.nil
            go_simp
            refine hK7.out _ _ ?_
            refine wpAnyLast_done (by kernel_rfl) ?_ _
            (try simp only [Act.put, List.setIfInBounds_toArray, List.set_cons_zero, List.set_cons_succ])
            replace HF := Lib.hid (HF.out.set 1 rfl 1 (.slice A8 (xs.length + 1) c8))
            clear k0 k1 k2 kf kl kn
            go_wp2_with fail
            go_roundg m
            case measure => omega
            case rel => exact ⟨false, xs ++ [(s1.name T e).1], (s1.name T e).2, _, (by simpa [List.length_append] using HF.out), rfl, HG, by simp; omega⟩
        | false =>
          have h44 : Bir.is [44] (s'.next T) = true := by simpa [moreR, hk] using hm
          have HG : Hid (rParams T e m false (xs ++ [((if 8 ≤ xs.length ∧ kindOf (s'.adv.next T) = 1 then s'.adv.stop T e 3 else s'.adv).name T e).1]) ((if 8 ≤ xs.length ∧ kindOf (s'.adv.next T) = 1 then s'.adv.stop T e 3 else s'.adv).name T e).2 = some (ps, s2)) := Lib.hid hgm
          clear hgm hm hk
          go_wp2_with fail
          refine (rtake_yes HF.out.st [44] h44).mono ?_
          rintro en w2 ⟨rfl, hx, hmm⟩
          replace HF := Lib.hid (HF.out.call hx hmm)
          clear hx hmm h44
          generalize s'.adv = s1 at HF HG
          by_cases h8 : 8 ≤ xs.length
          · have e8 : decide ((8 : Int) ≤ (xs.length : Int)) = true := by simp; omega
            have e8' : decide ((xs.length : Int) < 8) = false := by simp; omega
            have HK := Lib.hid (fun (w' : World) (h' : RM w' rb tb e T s1) => rkind_calls h')
            by_cases hk1 : kindOf (s1.next T) = 1
            · have e1 : ((kindOf (s1.next T) : Int) == 1) = true := by simp [hk1]
              rw [if_pos ⟨h8, hk1⟩] at HG
              clear h8 hk1
              generalize kindOf (s1.next T) = kd at HK e1
              obtain ⟨⟨k0, k1, k2⟩, kf, kl, kn⟩ := HF.out.c3 1 rfl
              go_wp2_with fail
              refine (HK.out _ HF.out.st).mono ?_
              rintro en w3 ⟨rfl, hb⟩
              replace HF := Lib.hid (HF.out.below hb)
              clear hb k0 k1 k2 kf kl kn
              go_wp2_with fail
              refine (rstop_calls HF.out.st 3 (by omega)).mono ?_
              rintro en w4 ⟨rfl, hx, hm⟩
              replace HF := Lib.hid (HF.out.call hx hm)
              clear hx hm
              generalize s1.stop T e 3 = s1 at HF HG
              obtain ⟨⟨k0, k1, k2⟩, kf, kl, kn⟩ := HF.out.c3 1 rfl
              go_wp2_with fail
              refine wp_region_last_drew (S := fun w' => w'.cell? ⟨w.heap.size + 1, 1, none⟩ = some (.slice A xs.length c)) (ds := [5, 6, 7]) (by kernel_rfl) k1 (fun hHeld => ?_)
              refine last_pure (i := 0) (v := .pointer (some ⟨w.heap.size + 1, 1, none⟩)) rfl (by kernel_rfl) (by kernel_rfl) (by kernel_rfl) (fun _ _ _ h => h) (Or.inl ⟨by rfl, ?_⟩) ?_
              · intro w'
                go_simp
              (try simp only [Act.put, List.setIfInBounds_toArray, List.set_cons_zero, List.set_cons_succ])
              refine wpAnyLast_take (i := 1) (v := .slice A xs.length c) rfl (by kernel_rfl) (by kernel_rfl) (by kernel_rfl) (by kernel_rfl) (by kernel_rfl) (fun _ _ _ h => h) (Or.inl ⟨by rfl, ?_⟩) hHeld ?_
              · intro w' a1
                go_simp
              (try simp only [Act.put, List.setIfInBounds_toArray, List.set_cons_zero, List.set_cons_succ])
              refine last_pure (i := 2) (v := pp rb) rfl (by kernel_rfl) (by kernel_rfl) (by kernel_rfl) (fun _ _ _ h => h) (Or.inl ⟨by rfl, ?_⟩) ?_
              · intro w'
                go_simp
              (try simp only [Act.put, List.setIfInBounds_toArray, List.set_cons_zero, List.set_cons_succ])
              refine wpAnyLast_ready (rs := [3]) (by kernel_rfl) (by simp) ?_
              refine AllReadyL.cons rfl (by decide) (fun K hK => ?_) AllReadyL.nil
              go_simp
              replace HF := Lib.hid HF.out.drew
              refine ((rname_calls HF.out.st)).mono ?_
              rintro en w9 ⟨rfl, hx, hm⟩
              replace HF := Lib.hid (HF.out.call hx hm)
              clear hx hm k0 k1 k2 kf kl kn
              obtain ⟨⟨k0, k1, k2⟩, kf, kl, kn⟩ := HF.out.c3 1 rfl
              refine hK.out _ _ k1 (fun _ => ?_)
              (try simp only [Act.put, List.setIfInBounds_toArray, List.set_cons_zero, List.set_cons_succ])
              refine wpAnyLast_ready (rs := [4]) (by kernel_rfl) (by simp) ?_
              refine AllReadyL.cons rfl (by decide) (fun K4 hK4 => ?_) AllReadyL.nil
              go_simp
              refine hK4.out _ _ (cell_ext k1 ((Ext.refl (fun _ => False) _).alloc _) id) (fun _ => ?_)
              (try simp only [Act.put, List.setIfInBounds_toArray, List.set_cons_zero, List.set_cons_succ])
              refine wpAnyLast_ready (rs := [5]) (by kernel_rfl) (by simp) ?_
              refine AllReadyL.cons_last rfl (by decide) (fun K5 hK5 => ?_) AllReadyL.nil
              rw [if_pos (by rfl)]
              refine append_one_op _ w.heap.size _ _ 53 9 _ 1 16 rfl Tryd.underlying53 infoStr rfl (by decide) (by decide) (.slice A xs.length c) xs.length (strCells xs) [.string (ba (s1.name T e).1)] rfl rfl rfl (by simp [Value.oneCell']) (HF.out.accN 0 rfl) HF.out.size (by omega) ?_
              intro v1 w8 hown hx8 hat
              refine hK5.out _ _ ?_
              replace HF := Lib.hid (HF.out.appNx 0 rfl (x := (s1.name T e).1) hown hx8 hat)
              obtain ⟨A8, c8, rfl, _⟩ := VRow.slice (HF.out.rowOfN 0 rfl)
              simp only [List.length_append, List.length_cons, List.length_nil] at HF
              clear hown hx8 hat k0 k1 k2 kf kl kn
              obtain ⟨⟨k0, k1, k2⟩, kf, kl, kn⟩ := HF.out.c3 1 rfl
              (try simp only [Act.put, List.setIfInBounds_toArray, List.set_cons_zero, List.set_cons_succ])
              refine wpAnyLast_ready (rs := [6]) (by kernel_rfl) (by simp) ?_
              refine AllReadyL.cons_last rfl (by decide) (fun K6 hK6 => ?_) AllReadyL.nil
              go_simp
              refine hK6.out _ _ ?_
              (try simp only [Act.put, List.setIfInBounds_toArray, List.set_cons_zero, List.set_cons_succ])
              refine wpAnyLast_ready (rs := [7]) (by kernel_rfl) (by simp) ?_
              refine AllReadyL.cons_last rfl (by decide) (fun K7 hK7 => ?_) AllReadyL.nil
              go_simp
              refine hK7.out _ _ ?_
              refine wpAnyLast_done (by kernel_rfl) ?_ _
              (try simp only [Act.put, List.setIfInBounds_toArray, List.set_cons_zero, List.set_cons_succ])
              replace HF := Lib.hid (HF.out.set 1 rfl 1 (.slice A8 (xs.length + 1) c8))
              clear k0 k1 k2 kf kl kn
              go_wp2_with fail
              go_roundg m
              case measure => omega
              case rel => exact ⟨false, xs ++ [(s1.name T e).1], (s1.name T e).2, _, (by simpa [List.length_append] using HF.out), rfl, HG, by simp; omega⟩
            · have e1 : ((kindOf (s1.next T) : Int) == 1) = false := beq_eq_false_iff_ne.2 (by omega)
              rw [if_neg (fun hh => hk1 hh.2)] at HG
              clear h8 hk1
              generalize kindOf (s1.next T) = kd at HK e1
              obtain ⟨⟨k0, k1, k2⟩, kf, kl, kn⟩ := HF.out.c3 1 rfl
              go_wp2_with fail
              refine (HK.out _ HF.out.st).mono ?_
              rintro en w3 ⟨rfl, hb⟩
              replace HF := Lib.hid (HF.out.below hb)
              clear hb k0 k1 k2 kf kl kn
              obtain ⟨⟨k0, k1, k2⟩, kf, kl, kn⟩ := HF.out.c3 1 rfl
              go_wp2_with fail
              refine wp_region_last_drew (S := fun w' => w'.cell? ⟨w.heap.size + 1, 1, none⟩ = some (.slice A xs.length c)) (ds := [5, 6, 7]) (by kernel_rfl) k1 (fun hHeld => ?_)
              refine last_pure (i := 0) (v := .pointer (some ⟨w.heap.size + 1, 1, none⟩)) rfl (by kernel_rfl) (by kernel_rfl) (by kernel_rfl) (fun _ _ _ h => h) (Or.inl ⟨by rfl, ?_⟩) ?_
              · intro w'
                go_simp
              (try simp only [Act.put, List.setIfInBounds_toArray, List.set_cons_zero, List.set_cons_succ])
              refine wpAnyLast_take (i := 1) (v := .slice A xs.length c) rfl (by kernel_rfl) (by kernel_rfl) (by kernel_rfl) (by kernel_rfl) (by kernel_rfl) (fun _ _ _ h => h) (Or.inl ⟨by rfl, ?_⟩) hHeld ?_
              · intro w' a1
                go_simp
              (try simp only [Act.put, List.setIfInBounds_toArray, List.set_cons_zero, List.set_cons_succ])
              refine last_pure (i := 2) (v := pp rb) rfl (by kernel_rfl) (by kernel_rfl) (by kernel_rfl) (fun _ _ _ h => h) (Or.inl ⟨by rfl, ?_⟩) ?_
              · intro w'
                go_simp
              (try simp only [Act.put, List.setIfInBounds_toArray, List.set_cons_zero, List.set_cons_succ])
              refine wpAnyLast_ready (rs := [3]) (by kernel_rfl) (by simp) ?_
              refine AllReadyL.cons rfl (by decide) (fun K hK => ?_) AllReadyL.nil
              go_simp
              replace HF := Lib.hid HF.out.drew
              refine ((rname_calls HF.out.st)).mono ?_
              rintro en w9 ⟨rfl, hx, hm⟩
              replace HF := Lib.hid (HF.out.call hx hm)
              clear hx hm k0 k1 k2 kf kl kn
              obtain ⟨⟨k0, k1, k2⟩, kf, kl, kn⟩ := HF.out.c3 1 rfl
              refine hK.out _ _ k1 (fun _ => ?_)
              (try simp only [Act.put, List.setIfInBounds_toArray, List.set_cons_zero, List.set_cons_succ])
              refine wpAnyLast_ready (rs := [4]) (by kernel_rfl) (by simp) ?_
              refine AllReadyL.cons rfl (by decide) (fun K4 hK4 => ?_) AllReadyL.nil
              go_simp
              refine hK4.out _ _ (cell_ext k1 ((Ext.refl (fun _ => False) _).alloc _) id) (fun _ => ?_)
              (try simp only [Act.put, List.setIfInBounds_toArray, List.set_cons_zero, List.set_cons_succ])
              refine wpAnyLast_ready (rs := [5]) (by kernel_rfl) (by simp) ?_
              refine AllReadyL.cons_last rfl (by decide) (fun K5 hK5 => ?_) AllReadyL.nil
              rw [if_pos (by rfl)]
              refine append_one_op _ w.heap.size _ _ 53 9 _ 1 16 rfl Tryd.underlying53 infoStr rfl (by decide) (by decide) (.slice A xs.length c) xs.length (strCells xs) [.string (ba (s1.name T e).1)] rfl rfl rfl (by simp [Value.oneCell']) (HF.out.accN 0 rfl) HF.out.size (by omega) ?_
              intro v1 w8 hown hx8 hat
              refine hK5.out _ _ ?_
              replace HF := Lib.hid (HF.out.appNx 0 rfl (x := (s1.name T e).1) hown hx8 hat)
              obtain ⟨A8, c8, rfl, _⟩ := VRow.slice (HF.out.rowOfN 0 rfl)
              simp only [List.length_append, List.length_cons, List.length_nil] at HF
              clear hown hx8 hat k0 k1 k2 kf kl kn
              obtain ⟨⟨k0, k1, k2⟩, kf, kl, kn⟩ := HF.out.c3 1 rfl
              (try simp only [Act.put, List.setIfInBounds_toArray, List.set_cons_zero, List.set_cons_succ])
              refine wpAnyLast_ready (rs := [6]) (by kernel_rfl) (by simp) ?_
              refine AllReadyL.cons_last rfl (by decide) (fun K6 hK6 => ?_) AllReadyL.nil
              go_simp
              refine hK6.out _ _ ?_
              (try simp only [Act.put, List.setIfInBounds_toArray, List.set_cons_zero, List.set_cons_succ])
              refine wpAnyLast_ready (rs := [7]) (by kernel_rfl) (by simp) ?_
              refine AllReadyL.cons_last rfl (by decide) (fun K7 hK7 => ?_) AllReadyL.nil
              go_simp
              refine hK7.out _ _ ?_
              refine wpAnyLast_done (by kernel_rfl) ?_ _
              (try simp only [Act.put, List.setIfInBounds_toArray, List.set_cons_zero, List.set_cons_succ])
              replace HF := Lib.hid (HF.out.set 1 rfl 1 (.slice A8 (xs.length + 1) c8))
              clear k0 k1 k2 kf kl kn
              go_wp2_with fail
              go_roundg m
              case measure => omega
              case rel => exact ⟨false, xs ++ [(s1.name T e).1], (s1.name T e).2, _, (by simpa [List.length_append] using HF.out), rfl, HG, by simp; omega⟩
          · have e8 : decide ((8 : Int) ≤ (xs.length : Int)) = false := by simp; omega
            have e8' : decide ((xs.length : Int) < 8) = true := by simp; omega
            rw [if_neg (fun hh => h8 hh.1)] at HG
            clear h8
            obtain ⟨⟨k0, k1, k2⟩, kf, kl, kn⟩ := HF.out.c3 1 rfl
            go_wp2_with fail
            refine wp_region_last_drew (S := fun w' => w'.cell? ⟨w.heap.size + 1, 1, none⟩ = some (.slice A xs.length c)) (ds := [5, 6, 7]) (by kernel_rfl) k1 (fun hHeld => ?_)
            refine last_pure (i := 0) (v := .pointer (some ⟨w.heap.size + 1, 1, none⟩)) rfl (by kernel_rfl) (by kernel_rfl) (by kernel_rfl) (fun _ _ _ h => h) (Or.inl ⟨by rfl, ?_⟩) ?_
            · intro w'
              go_simp
            (try simp only [Act.put, List.setIfInBounds_toArray, List.set_cons_zero, List.set_cons_succ])
            refine wpAnyLast_take (i := 1) (v := .slice A xs.length c) rfl (by kernel_rfl) (by kernel_rfl) (by kernel_rfl) (by kernel_rfl) (by kernel_rfl) (fun _ _ _ h => h) (Or.inl ⟨by rfl, ?_⟩) hHeld ?_
            · intro w' a1
              go_simp
            (try simp only [Act.put, List.setIfInBounds_toArray, List.set_cons_zero, List.set_cons_succ])
            refine last_pure (i := 2) (v := pp rb) rfl (by kernel_rfl) (by kernel_rfl) (by kernel_rfl) (fun _ _ _ h => h) (Or.inl ⟨by rfl, ?_⟩) ?_
            · intro w'
              go_simp
            (try simp only [Act.put, List.setIfInBounds_toArray, List.set_cons_zero, List.set_cons_succ])
            refine wpAnyLast_ready (rs := [3]) (by kernel_rfl) (by simp) ?_
            refine AllReadyL.cons rfl (by decide) (fun K hK => ?_) AllReadyL.nil
            go_simp
            replace HF := Lib.hid HF.out.drew
            refine ((rname_calls HF.out.st)).mono ?_
            rintro en w9 ⟨rfl, hx, hm⟩
            replace HF := Lib.hid (HF.out.call hx hm)
            clear hx hm k0 k1 k2 kf kl kn
            obtain ⟨⟨k0, k1, k2⟩, kf, kl, kn⟩ := HF.out.c3 1 rfl
            refine hK.out _ _ k1 (fun _ => ?_)
            (try simp only [Act.put, List.setIfInBounds_toArray, List.set_cons_zero, List.set_cons_succ])
            refine wpAnyLast_ready (rs := [4]) (by kernel_rfl) (by simp) ?_
            refine AllReadyL.cons rfl (by decide) (fun K4 hK4 => ?_) AllReadyL.nil
            go_simp
            refine hK4.out _ _ (cell_ext k1 ((Ext.refl (fun _ => False) _).alloc _) id) (fun _ => ?_)
            (try simp only [Act.put, List.setIfInBounds_toArray, List.set_cons_zero, List.set_cons_succ])
            refine wpAnyLast_ready (rs := [5]) (by kernel_rfl) (by simp) ?_
            refine AllReadyL.cons_last rfl (by decide) (fun K5 hK5 => ?_) AllReadyL.nil
            rw [if_pos (by rfl)]
            refine append_one_op _ w.heap.size _ _ 53 9 _ 1 16 rfl Tryd.underlying53 infoStr rfl (by decide) (by decide) (.slice A xs.length c) xs.length (strCells xs) [.string (ba (s1.name T e).1)] rfl rfl rfl (by simp [Value.oneCell']) (HF.out.accN 0 rfl) HF.out.size (by omega) ?_
            intro v1 w8 hown hx8 hat
            refine hK5.out _ _ ?_
            replace HF := Lib.hid (HF.out.appNx 0 rfl (x := (s1.name T e).1) hown hx8 hat)
            obtain ⟨A8, c8, rfl, _⟩ := VRow.slice (HF.out.rowOfN 0 rfl)
            simp only [List.length_append, List.length_cons, List.length_nil] at HF
            clear hown hx8 hat k0 k1 k2 kf kl kn
            obtain ⟨⟨k0, k1, k2⟩, kf, kl, kn⟩ := HF.out.c3 1 rfl
            (try simp only [Act.put, List.setIfInBounds_toArray, List.set_cons_zero, List.set_cons_succ])
            refine wpAnyLast_ready (rs := [6]) (by kernel_rfl) (by simp) ?_
            refine AllReadyL.cons_last rfl (by decide) (fun K6 hK6 => ?_) AllReadyL.nil
            go_simp
            refine hK6.out _ _ ?_
            (try simp only [Act.put, List.setIfInBounds_toArray, List.set_cons_zero, List.set_cons_succ])
            refine wpAnyLast_ready (rs := [7]) (by kernel_rfl) (by simp) ?_
            refine AllReadyL.cons_last rfl (by decide) (fun K7 hK7 => ?_) AllReadyL.nil
            go_simp
            refine hK7.out _ _ ?_
            refine wpAnyLast_done (by kernel_rfl) ?_ _
            (try simp only [Act.put, List.setIfInBounds_toArray, List.set_cons_zero, List.set_cons_succ])
            replace HF := Lib.hid (HF.out.set 1 rfl 1 (.slice A8 (xs.length + 1) c8))
            clear k0 k1 k2 kf kl kn
            go_wp2_with fail
            go_roundg m
            case measure => omega
            case rel => exact ⟨false, xs ++ [(s1.name T e).1], (s1.name T e).2, _, (by simpa [List.length_append] using HF.out), rfl, HG, by simp; omega⟩
end
end Go.Proofs.YtdijffojppjmfaaDoor
set_option linter.unusedVariables false
set_option linter.unusedSimpArgs false
namespace Go.Proofs.YtdijffojppjmfaaDoor
open Go.RowKit Bir Go.BW Go.Proofs.YtdijffojppjmfaaDoorW.PrintLast
section
variable {w : World} {rb tb e n : Nat} {T : List Tok} {s : RS}
set_option maxHeartbeats 16000000 in
set_option maxRecDepth 100000 in
theorem rprog_step {p : Pr × RS} {m0 : Nat} (hn9 : n ≤ 1000000000) (hm9 : m0 ≤ 1000000000) (h : RM w rb tb e T s) (hp : rProg T e n m0 [] [] s = some p) : Calls Tryd.prog 39 #[pp rb] w (RPost PVal w rb tb e T p) := by
  have HP := Lib.hid hp
  have HF := Lib.hid ((((RF.start h).make [.slice none 0 0, .slice none 0 0] 26 (by decide)).make [.slice none 0 0, .slice none 0 0] 26 (by decide)).acc0F).acc0A
  rw [World.size_alloc] at HF
  clear hp h
  go_enter Tryd.func39, Tryd.ntmps39
  go_wp2_with fail
  go_loopg [] m0 (fun gk wr => ∃ ars fs av fv s', RF w wr rb tb e T s' [.accA av ars, .accF fv fs, .blk (w.heap.size + 1) 26 [av, fv], .blk w.heap.size 26 [.slice none 0 0, .slice none 0 0]] ∧ Hid (rProg T e n gk ars fs s' = some p) ∧ ars.length + fs.length + gk ≤ m0)
  case atStart => exact ⟨[], [], _, _, s, HF.out, HP, by simp⟩
  case round =>
    obtain ⟨ars, fs, av, fv, s', hrf, hg, hlen⟩ := hrel
    clear HF HP
    cases gk with
    | zero => exact absurd hg.out (by simp [rProg])
    | succ m =>
      have hgm := hg.out
      unfold rProg at hgm
      have HF := Lib.hid hrf
      have hwz := hrf.size
      have hrbl := hrf.st.rb_lt
      obtain ⟨A0, c0, v0, ⟨q0, q1, q2, q3, q4, q5⟩, _⟩ := hrf.st.cells
      obtain ⟨A, c, rfl, _⟩ := VRow.slice (hrf.rowOfA 0 rfl)
      obtain ⟨B, d, rfl⟩ : ∃ B d, fv = .slice B fs.length d := by
        obtain ⟨cs, h1, _⟩ := hrf.rowOfF 1 rfl
        obtain ⟨B, d, h2, _⟩ := VRow.slice h1
        exact ⟨B, d, h2⟩
      have hlen2 := hrf.st.len
      clear hg hrf
      by_cases hc : s'.k = 0 ∧ s'.at_ < T.length
      · obtain ⟨hk, hlt⟩ := hc
        rw [if_pos ⟨hk, hlt⟩] at hgm
        rw [hk] at q3
        have e2 : IntKind.i64.wrap ((s'.at_ : Int) + 1) = (s'.at_ : Int) + 1 := IntWalk.i64_in _ (by omega)
        have e3 : decide ((s'.at_ : Int) < (T.length : Int)) = true := by simp; omega
        have e4 : decide (s'.at_ < T.length) = true := decide_eq_true hlt
        clear hk
        go_wp2_with fail
        go_quiet (fail)
        rename_i nq
        replace HF := Lib.hid (HF.out.drewN nq)
        clear q0 q1 q2 q3 q4 q5 e3 e4
        go_wp2_with fail
        cases h1 : Bir.is [97, 114, 114, 97, 121] (s'.next T) with
        | true =>
          rw [h1] at hgm
          refine (ris_calls HF.out.st [97, 114, 114, 97, 121]).mono ?_
          rw [h1]
          rintro en w3 ⟨rfl, hb⟩
          replace HF := Lib.hid (HF.out.below hb)
          clear hb h1
          simp only [if_true] at hgm
          by_cases h16 : 16 ≤ ars.length
          · rw [if_pos h16] at hgm
            obtain rfl : (⟨ars, fs⟩, s'.stop T e 3) = p := by injection hgm
            have e16 : decide ((16 : Int) ≤ (ars.length : Int)) = true := by simp; omega
            have e16' : decide ((ars.length : Int) < 16) = false := by simp; omega
            clear hgm h16
            obtain ⟨⟨m0, m1⟩, mf, ml, mn⟩ := HF.out.c2 2 rfl
            go_wp2_with fail
            refine (rstop_calls HF.out.st 3 (by omega)).mono ?_
            rintro en w4 ⟨rfl, hx, hm⟩
            replace HF := Lib.hid (HF.out.call hx hm)
            clear hx hm m0 m1 mf ml mn
            obtain ⟨⟨m0, m1⟩, mf, ml, mn⟩ := HF.out.c2 2 rfl
            obtain ⟨⟨r0, r1⟩, rf, rl, rn⟩ := HF.out.c2 3 rfl
            go_wp2_with fail
            exact rf_endP rfl HF.out 3 rfl rfl fun W h => ⟨_, rfl, ⟨_, _, rfl, h.rowOfA 0 rfl, h.rowOfF 1 rfl⟩, h.rx, h.st⟩
          · rw [if_neg h16] at hgm
            have e16 : decide ((16 : Int) ≤ (ars.length : Int)) = false := by simp; omega
            have e16' : decide ((ars.length : Int) < 16) = true := by simp; omega
            have HG : Hid (rProg T e n m (ars ++ [(rArray T e s'.adv).1]) fs (rArray T e s'.adv).2 = some p) := Lib.hid hgm
            clear hgm h16
            obtain ⟨A0, c0, v0, ⟨q0, q1, q2, q3, q4, q5⟩, _⟩ := HF.out.st.cells
            have hf := HF.out.st.fz
            have hrl := HF.out.st.rb_lt
            obtain ⟨⟨m0, m1⟩, mf, ml, mn⟩ := HF.out.c2 2 rfl
            go_wp2_with fail
            clear m0 m1 mf ml mn q0 q1 q2 q3 q4 q5 hf hrl
            have hadv := RSt.set2 HF.out.st (s'.at_ + 1) hlt
            have hrx := (RX.refl rb w3).set (p := ⟨rb, 2, none⟩) (.inl rfl) (.int .i64 ((s'.at_ + 1 : Nat) : Int))
            replace HF := Lib.hid (HF.out.call (s1 := s'.adv) hrx hadv)
            clear hadv hrx
            replace HF := Lib.hid (HF.out.make [.string ⟨#[]⟩, .int .i64 0] 73 (by decide))
            rw [size_sc] at HF
            unfold rArray at HG
            have HNM := Lib.hid (fun (w' : World) (h' : RM w' rb tb e T s'.adv) => rname_calls h')
            generalize s'.adv.name T e = q at HNM HG
            refine (HNM.out _ HF.out.st).mono ?_
            rintro en w5 ⟨rfl, hx, hm⟩
            replace HF := Lib.hid (HF.out.call hx hm)
            clear hx hm
            obtain ⟨⟨k0, k1⟩, kf, kl, kn⟩ := HF.out.c2 0 rfl
            replace HF := Lib.hid (HF.out.set 0 rfl 0 (.string (ba q.1)))
            go_wp2_with fail
            clear k0 k1 kf kl kn
            refine (rmust_calls HF.out.st [91]).mono ?_
            rintro en w6 ⟨rfl, hx, hm⟩
            replace HF := Lib.hid (HF.out.call hx hm)
            clear hx hm
            have HNU := Lib.hid (fun (w' : World) (h' : RM w' rb tb e T (q.2.must T e [91])) => rnumber_calls h')
            generalize (q.2.must T e [91]).number T e = u at HNU HG
            go_wp2_with fail
            refine (HNU.out _ HF.out.st).mono ?_
            rintro en w7 ⟨rfl, hx, hm⟩
            replace HF := Lib.hid (HF.out.call hx hm)
            clear hx hm
            obtain ⟨⟨k0, k1⟩, kf, kl, kn⟩ := HF.out.c2 0 rfl
            replace HF := Lib.hid (HF.out.set 0 rfl 1 (.int .i64 u.1))
            go_wp2_with fail
            clear k0 k1 kf kl kn
            refine (rmust_calls HF.out.st [93]).mono ?_
            rintro en w8 ⟨rfl, hx, hm⟩
            replace HF := Lib.hid (HF.out.call hx hm)
            clear hx hm
            go_wp2_with fail
            refine (rmust_calls HF.out.st [59]).mono ?_
            rintro en w9 ⟨rfl, hx, hm⟩
            replace HF := Lib.hid (HF.out.call hx hm)
            clear hx hm
            obtain ⟨⟨k0, k1⟩, kf, kl, kn⟩ := HF.out.c2 0 rfl
            obtain ⟨⟨m0, m1⟩, mf, ml, mn⟩ := HF.out.c2 3 rfl
            have hsz := HF.out.size
            have HO := Lib.hid (HF.out.accA 1 rfl)
            go_wp2_with (at_builtin; refine append_one w9 w.heap.size rfl _ _ 23 73 _ 2 24 rfl Tryd.underlying23 infoArr rfl (by decide) (by decide) (.slice A ars.length c) ars.length (arrCells ars) [.string (ba q.1), .int .i64 u.1] rfl rfl rfl (by simp [Value.oneCell']) HO.out hsz (by omega) ?_; intro v1 w10 hown7 hg7 hat7; replace HF := Lib.hid (HF.out.appA 1 rfl (x := ⟨q.1, u.1⟩) hown7 hg7 hat7); obtain ⟨A8, c8, rfl, _⟩ := VRow.slice (HF.out.rowOfA 1 rfl); simp only [List.length_append, List.length_cons, List.length_nil] at HF; clear hown7 hg7 hat7 m0 m1 mf ml mn; obtain ⟨⟨m0, m1⟩, mf, ml, mn⟩ := HF.out.c2 3 rfl; replace HF := Lib.hid (HF.out.set 3 rfl 0 (.slice A8 (ars.length + 1) c8)))
            go_roundg m
            case measure => omega
            case rel => exact ⟨ars ++ [⟨q.1, u.1⟩], fs, _, _, _, (by simpa [List.length_append] using HF.out.drop (.cons _ (.cons_cons _ (.cons_cons _ (.cons_cons _ (.cons_cons _ .slnil)))))), HG, by simp; omega⟩
        | false =>
          rw [h1] at hgm
          simp only [Bool.false_eq_true, if_false] at hgm
          refine (ris_calls HF.out.st [97, 114, 114, 97, 121]).mono ?_
          rw [h1]
          rintro en w2 ⟨rfl, hb⟩
          replace HF := Lib.hid (HF.out.below hb)
          clear hb h1
          go_wp2_with fail
          cases h2 : Bir.is [102, 117, 110, 99] (s'.next T) with
          | true =>
            rw [h2] at hgm
            refine (ris_calls HF.out.st [102, 117, 110, 99]).mono ?_
            rw [h2]
            rintro en w3 ⟨rfl, hb⟩
            replace HF := Lib.hid (HF.out.below hb)
            clear hb h2
            simp only [if_true] at hgm
            by_cases h40 : 40 ≤ fs.length
            · rw [if_pos h40] at hgm
              obtain rfl : (⟨ars, fs⟩, s'.stop T e 3) = p := by injection hgm
              have e16 : decide ((40 : Int) ≤ (fs.length : Int)) = true := by simp; omega
              have e16' : decide ((fs.length : Int) < 40) = false := by simp; omega
              clear hgm h40
              obtain ⟨⟨m0, m1⟩, mf, ml, mn⟩ := HF.out.c2 2 rfl
              go_wp2_with fail
              refine (rstop_calls HF.out.st 3 (by omega)).mono ?_
              rintro en w4 ⟨rfl, hx, hm⟩
              replace HF := Lib.hid (HF.out.call hx hm)
              clear hx hm m0 m1 mf ml mn
              obtain ⟨⟨m0, m1⟩, mf, ml, mn⟩ := HF.out.c2 2 rfl
              obtain ⟨⟨r0, r1⟩, rf, rl, rn⟩ := HF.out.c2 3 rfl
              go_wp2_with fail
              exact rf_endP rfl HF.out 3 rfl rfl fun W h => ⟨_, rfl, ⟨_, _, rfl, h.rowOfA 0 rfl, h.rowOfF 1 rfl⟩, h.rx, h.st⟩
            · rw [if_neg h40] at hgm
              have e16 : decide ((40 : Int) ≤ (fs.length : Int)) = false := by simp; omega
              have e16' : decide ((fs.length : Int) < 40) = true := by simp; omega
              obtain ⟨⟨x, s3⟩, h3, hgm⟩ := ob hgm
              have H3 := Lib.hid h3
              have HG : Hid (rProg T e n m ars (fs ++ [x]) s3 = some p) := Lib.hid hgm
              clear hgm h40 h3
              obtain ⟨A0, c0, v0, ⟨q0, q1, q2, q3, q4, q5⟩, _⟩ := HF.out.st.cells
              have hf := HF.out.st.fz
              have hrl := HF.out.st.rb_lt
              obtain ⟨⟨m0, m1⟩, mf, ml, mn⟩ := HF.out.c2 2 rfl
              go_wp2_with fail
              clear m0 m1 mf ml mn q0 q1 q2 q3 q4 q5 hf hrl
              have hadv := RSt.set2 HF.out.st (s'.at_ + 1) hlt
              have hrx := (RX.refl rb w3).set (p := ⟨rb, 2, none⟩) (.inl rfl) (.int .i64 ((s'.at_ + 1 : Nat) : Int))
              replace HF := Lib.hid (HF.out.call (s1 := s'.adv) hrx hadv)
              clear hadv hrx
              obtain ⟨⟨k0, k1⟩, kf, kl, kn⟩ := HF.out.c2 2 rfl
              refine wp_region_last_drew (S := fun w' => w'.cell? ⟨w.heap.size + 1, 1, none⟩ = some (.slice B fs.length d)) (ds := [5, 6, 7]) (by kernel_rfl) k1 (fun hHeld => ?_)
              refine last_pure (i := 0) (v := .pointer (some ⟨w.heap.size + 1, 1, none⟩)) rfl (by kernel_rfl) (by kernel_rfl) (by kernel_rfl) (fun _ _ _ h => h) (Or.inl ⟨by rfl, ?_⟩) ?_
              · intro w'
                go_simp
              (try simp only [Act.put, List.setIfInBounds_toArray, List.set_cons_zero, List.set_cons_succ])
              refine wpAnyLast_take (i := 1) (v := .slice B fs.length d) rfl (by kernel_rfl) (by kernel_rfl) (by kernel_rfl) (by kernel_rfl) (by kernel_rfl) (fun _ _ _ h => h) (Or.inl ⟨by rfl, ?_⟩) hHeld ?_
              · intro w' a1
                go_simp
              (try simp only [Act.put, List.setIfInBounds_toArray, List.set_cons_zero, List.set_cons_succ])
              refine last_pure (i := 2) (v := pp rb) rfl (by kernel_rfl) (by kernel_rfl) (by kernel_rfl) (fun _ _ _ h => h) (Or.inl ⟨by rfl, ?_⟩) ?_
              · intro w'
                go_simp
              (try simp only [Act.put, List.setIfInBounds_toArray, List.set_cons_zero, List.set_cons_succ])
              refine wpAnyLast_ready (rs := [3]) (by kernel_rfl) (by simp) ?_
              refine AllReadyL.cons rfl (by decide) (fun K hK => ?_) AllReadyL.nil
              go_simp
              replace HF := Lib.hid HF.out.drew
              refine (rfunc_step hn9 HF.out.st H3.out).mono ?_
              rintro en w9 ⟨v, rfl, ⟨pv, bv, rfl, hr1, hr2⟩, hx, hm⟩
              replace HF := Lib.hid (HF.out.callF hx hm hr1 hr2)
              obtain ⟨A5, c5, rfl, _⟩ := VRow.slice hr1
              obtain ⟨B5, d5, rfl, _⟩ := SRow.slice hr2
              clear hx hm hr1 hr2 k0 k1 kf kl kn
              obtain ⟨⟨k0, k1⟩, kf, kl, kn⟩ := HF.out.c2 4 rfl
              obtain ⟨cs, ho, hc⟩ := HF.out.accF 3 rfl
              have HO := Lib.hid ho
              have HC := Lib.hid hc
              clear ho hc
              refine hK.out _ _ k1 (fun _ => ?_)
              (try simp only [Act.put, List.setIfInBounds_toArray, List.set_cons_zero, List.set_cons_succ])
              refine wpAnyLast_ready (rs := [4]) (by kernel_rfl) (by simp) ?_
              refine AllReadyL.cons rfl (by decide) (fun K4 hK4 => ?_) AllReadyL.nil
              go_simp
              refine hK4.out _ _ (cell_ext k1 ((Ext.refl (fun _ => False) _).alloc _) id) (fun _ => ?_)
              (try simp only [Act.put, List.setIfInBounds_toArray, List.set_cons_zero, List.set_cons_succ])
              refine wpAnyLast_ready (rs := [5]) (by kernel_rfl) (by simp) ?_
              refine AllReadyL.cons_last rfl (by decide) (fun K5 hK5 => ?_) AllReadyL.nil
              rw [if_pos (by rfl)]
              refine append_one_op _ w.heap.size _ _ 24 76 _ 3 64 rfl Tryd.underlying24 infoFn rfl (by decide) (by decide) (.slice B fs.length d) fs.length cs [.string (ba x.name), .slice A5 x.params.length c5, .slice B5 x.body.length d5] rfl rfl rfl (by simp [Value.oneCell']) HO.out HF.out.size (by omega) ?_
              intro v1 w8 hown hx8 hat
              refine hK5.out _ _ ?_
              obtain ⟨A8, c8, rfl⟩ : ∃ A8 c8, v1 = .slice A8 (fs.length + 1) c8 := by
                obtain ⟨A8, c8, he, _⟩ := VRow.slice (VRow.of_own hown)
                exact ⟨A8, c8, he⟩
              replace HF := Lib.hid (HF.out.appFx 3 rfl HC.out (HF.out.getP 0 rfl) (HF.out.getB 1 rfl) hown hx8 hat)
              clear hown hx8 hat k0 k1 kf kl kn
              obtain ⟨⟨k0, k1⟩, kf, kl, kn⟩ := HF.out.c2 4 rfl
              (try simp only [Act.put, List.setIfInBounds_toArray, List.set_cons_zero, List.set_cons_succ])
              refine wpAnyLast_ready (rs := [6]) (by kernel_rfl) (by simp) ?_
              refine AllReadyL.cons_last rfl (by decide) (fun K6 hK6 => ?_) AllReadyL.nil
              go_simp
              refine hK6.out _ _ ?_
              (try simp only [Act.put, List.setIfInBounds_toArray, List.set_cons_zero, List.set_cons_succ])
              refine wpAnyLast_ready (rs := [7]) (by kernel_rfl) (by simp) ?_
              refine AllReadyL.cons_last rfl (by decide) (fun K7 hK7 => ?_) AllReadyL.nil
              go_simp
              refine hK7.out _ _ ?_
              refine wpAnyLast_done (by kernel_rfl) ?_ _
              (try simp only [Act.put, List.setIfInBounds_toArray, List.set_cons_zero, List.set_cons_succ])
              replace HF := Lib.hid (HF.out.set 4 rfl 1 (.slice A8 (fs.length + 1) c8))
              clear k0 k1 kf kl kn
              go_wp2_with fail
              go_roundg m
              case measure => omega
              case rel => exact ⟨ars, fs ++ [x], _, _, s3, (by simpa [List.length_append] using HF.out.drop (.cons _ (.cons _ (.cons_cons _ (.cons_cons _ (.cons_cons _ (.cons_cons _ .slnil))))))), HG, by simp; omega⟩
          | false =>
            rw [h2] at hgm
            simp only [Bool.false_eq_true, if_false] at hgm
            have HG := Lib.hid hgm
            clear hgm
            refine (ris_calls HF.out.st [102, 117, 110, 99]).mono ?_
            rw [h2]
            rintro en w3 ⟨rfl, hb⟩
            replace HF := Lib.hid (HF.out.below hb)
            clear hb h2
            go_wp2_with fail
            refine (rstop_calls HF.out.st 4 (by omega)).mono ?_
            rintro en w4 ⟨rfl, hx, hm⟩
            replace HF := Lib.hid (HF.out.call hx hm)
            clear hx hm
            go_wp2_with fail
            go_roundg m
            case measure => omega
            case rel => exact ⟨ars, fs, _, _, _, HF.out, HG, by omega⟩
      · rw [if_neg hc] at hgm
        obtain rfl : (⟨ars, fs⟩, s') = p := by injection hgm
        clear hgm
        by_cases hk : s'.k = 0
        · rw [hk] at q3
          have hlt : ¬ s'.at_ < T.length := fun hh => hc ⟨hk, hh⟩
          have e3 : decide ((s'.at_ : Int) < (T.length : Int)) = false := by simp; omega
          have e4 : decide (s'.at_ < T.length) = false := decide_eq_false hlt
          clear hk hc hlt
          go_wp2_with fail
          go_quiet (fail)
          rename_i nq
          replace HF := Lib.hid (HF.out.drewN nq)
          clear q0 q1 q2 q3 q4 q5 e3 e4
          obtain ⟨⟨m0, m1⟩, mf, ml, mn⟩ := HF.out.c2 2 rfl
          obtain ⟨⟨r0, r1⟩, rf, rl, rn⟩ := HF.out.c2 3 rfl
          go_wp2_with fail
          exact rf_endP rfl HF.out 3 rfl rfl fun W h => ⟨_, rfl, ⟨_, _, rfl, h.rowOfA 0 rfl, h.rowOfF 1 rfl⟩, h.rx, h.st⟩
        · have e0 : ((s'.k : Int) == 0) = false := beq_eq_false_iff_ne.2 (by omega)
          clear hk hc
          go_wp2_with fail
          go_quiet (fail)
          rename_i nq
          replace HF := Lib.hid (HF.out.drewN nq)
          clear q0 q1 q2 q3 q4 q5 e0
          obtain ⟨⟨m0, m1⟩, mf, ml, mn⟩ := HF.out.c2 2 rfl
          obtain ⟨⟨r0, r1⟩, rf, rl, rn⟩ := HF.out.c2 3 rfl
          go_wp2_with fail
          exact rf_endP rfl HF.out 3 rfl rfl fun W h => ⟨_, rfl, ⟨_, _, rfl, h.rowOfA 0 rfl, h.rowOfF 1 rfl⟩, h.rx, h.st⟩
end
end Go.Proofs.YtdijffojppjmfaaDoor
