/- The reference's reader: expr. The reference's reader: unary (printed by gun.py). The reference's reader: begins, arguments (printed by gargs.py). The reference's Level. The reference's reader: binary. -/
import Derived.Test.YtdijffojppjmfaaDoorUb
import Derived.LoopN
import Derived.Test.YtdijffojppjmfaaDoorPe
import Derived.Deep.LoopGhost
import Derived.Test.YtdijffojppjmfaaDoorSx
import Derived.Test.YtdijffojppjmfaaDoorPl
import Derived.Deep.RegionHeld3
set_option linter.unusedVariables false
set_option linter.unusedSimpArgs false
namespace Go.Proofs.YtdijffojppjmfaaDoor
open Go.RowKit Bir Go.BW
abbrev zX : List Value := [.int .i64 0, .int .i64 0, .string ⟨#[]⟩, .slice none 0 0]
section
variable {w : World} {rb tb e n : Nat} {T : List Tok} {s : RS}
set_option maxHeartbeats 4000000 in
set_option maxRecDepth 100000 in
theorem rexpr_step {p : Ex × RS} (ih : RAll n) (h : RM w rb tb e T s) (hp : (rd T e (n + 1)).expr s = some p) : Calls Tryd.prog 45 #[pp rb] w (RPost EVal w rb tb e T p) := by
  replace hp : rExpr T e (rd T e n) s = some p := hp
  unfold rExpr at hp
  obtain ⟨⟨x, s1⟩, h1, hp⟩ := ob hp
  have HI := Lib.hid ih
  have H1 := Lib.hid h1
  have HF := Lib.hid ((RF.start h).make zX 36 (by decide))
  have hrb := h.rb_lt
  obtain ⟨A0, c0, v0, ⟨q0, q1, q2, q3, q4, q5⟩, _⟩ := h.cells
  clear ih h1 h q0 q1 q3 q4 q5
  cases hq : is [63] (s1.next T) with
  | false =>
    rw [show (x, s1).2.next T = s1.next T from rfl, hq] at hp
    obtain rfl : (x, s1) = p := by injection hp
    clear hp
    go_enter Tryd.func45, Tryd.ntmps45
    go_wp2_with fail
    refine (HI.out.bin 1 1 rfl (by omega) (by omega) HF.out.st H1.out).mono ?_
    rintro en w1 ⟨v, rfl, ⟨kv, rfl, hr⟩, hx, hm⟩
    replace HF := Lib.hid (HF.out.callE hx hm hr)
    obtain ⟨A1, c1, rfl, _⟩ := hr.slice
    replace HF := Lib.hid (HF.out.make [.int .i64 x.kind, .int .i64 x.num, .string (ba x.name), .slice A1 x.kids.length c1] 36 (by decide))
    clear hx hm hr q2
    go_wp2_with fail
    refine (rtake_no HF.out.st [63] hq).mono ?_
    rintro en w2 ⟨rfl, hb⟩
    replace HF := Lib.hid (HF.out.below hb)
    clear hb
    obtain ⟨⟨k0, k1, k2, k3⟩, kf, kl, kn⟩ := HF.out.c4 0 rfl
    obtain ⟨⟨r0, r1, r2, r3⟩, rf, rl, rn⟩ := HF.out.c4 2 rfl
    go_wp2_with fail
    exact rf_endE rfl HF.out 2 rfl rfl fun W h => ⟨_, rfl, ⟨_, rfl, h.outE 1 rfl⟩, h.rx, h.st⟩
  | true =>
    rw [show (x, s1).2.next T = s1.next T from rfl, hq] at hp
    simp only [if_true] at hp
    obtain ⟨⟨y, s2⟩, h2, hp⟩ := ob hp
    obtain ⟨⟨z, s4⟩, h4, hp⟩ := ob hp
    obtain ⟨s5, h5, hp⟩ := ob hp
    obtain rfl : (Ex.mk 7 0 [] [x, y, z], s5) = p := by injection hp
    have H2 := Lib.hid h2
    have H4 := Lib.hid h4
    have H5 := Lib.hid h5
    clear hp h2 h4 h5
    go_enter Tryd.func45, Tryd.ntmps45
    go_wp2_with fail
    refine (HI.out.bin 1 1 rfl (by omega) (by omega) HF.out.st H1.out).mono ?_
    rintro en w1 ⟨v, rfl, ⟨kv, rfl, hr⟩, hx, hm⟩
    replace HF := Lib.hid (HF.out.callE hx hm hr)
    obtain ⟨A1, c1, rfl, _⟩ := hr.slice
    replace HF := Lib.hid (HF.out.make [.int .i64 x.kind, .int .i64 x.num, .string (ba x.name), .slice A1 x.kids.length c1] 36 (by decide))
    clear hx hm hr q2
    go_wp2_with fail
    refine (rtake_yes HF.out.st [63] hq).mono ?_
    rintro en w2 ⟨rfl, hx, hm⟩
    replace HF := Lib.hid (HF.out.call hx hm)
    clear hx hm hq
    go_wp2_with fail
    refine (HI.out.expr HF.out.st H2.out).mono ?_
    rintro en w3 ⟨v, rfl, ⟨kv, rfl, hr⟩, hx, hm⟩
    replace HF := Lib.hid (HF.out.callE hx hm hr)
    obtain ⟨A3, c3, rfl, _⟩ := hr.slice
    replace HF := Lib.hid (HF.out.make [.int .i64 y.kind, .int .i64 y.num, .string (ba y.name), .slice A3 y.kids.length c3] 36 (by decide))
    clear hx hm hr
    go_wp2_with fail
    refine (rmust_calls HF.out.st [58]).mono ?_
    rintro en w4 ⟨rfl, hx, hm⟩
    replace HF := Lib.hid (HF.out.call hx hm)
    clear hx hm
    go_wp2_with fail
    refine (HI.out.expr HF.out.st H4.out).mono ?_
    rintro en w5 ⟨v, rfl, ⟨kv, rfl, hr⟩, hx, hm⟩
    replace HF := Lib.hid (HF.out.callE hx hm hr)
    obtain ⟨A5, c5, rfl, _⟩ := hr.slice
    replace HF := Lib.hid (HF.out.make [.int .i64 z.kind, .int .i64 z.num, .string (ba z.name), .slice A5 z.kids.length c5] 36 (by decide))
    clear hx hm hr
    obtain ⟨⟨z0, z1, z2, z3⟩, _⟩ := HF.out.c4 0 rfl
    obtain ⟨⟨y0, y1, y2, y3⟩, _⟩ := HF.out.c4 2 rfl
    obtain ⟨⟨x0, x1, x2, x3⟩, _⟩ := HF.out.c4 4 rfl
    go_wp2_with fail
    replace HF := Lib.hid (HF.out.row3 (HF.out.getE 5 rfl) (HF.out.getE 3 rfl) (HF.out.getE 1 rfl))
    rw [World.size_alloc] at HF
    refine (rsaid_calls HF.out.st s.at_ (.int .i64 7) (.int .i64 0) (.string ⟨#[]⟩) _ ⟨_, _, _, rfl⟩ ⟨_, rfl⟩ ⟨_, rfl⟩ ⟨_, rfl⟩ H5.out).mono ?_
    rintro en w6 ⟨rfl, hx, hm⟩
    replace HF := Lib.hid (HF.out.call hx hm)
    clear hx hm z0 z1 z2 z3 y0 y1 y2 y3 x0 x1 x2 x3
    obtain ⟨⟨r0, r1, r2, r3⟩, rf, rl, rn⟩ := HF.out.c4 7 rfl
    go_wp2_with fail
    exact rf_endE rfl HF.out 7 rfl rfl fun W h => ⟨_, rfl, ⟨_, rfl, h.outE 0 rfl⟩, h.rx, h.st⟩
end
end Go.Proofs.YtdijffojppjmfaaDoor
set_option linter.unusedVariables false
set_option linter.unusedSimpArgs false
namespace Go.Proofs.YtdijffojppjmfaaDoor
open Go.RowKit Bir Go.BW
section
variable {w : World} {rb tb e n : Nat} {T : List Tok} {s : RS} {p : Ex × RS}
set_option maxHeartbeats 4000000 in
set_option maxRecDepth 100000 in
theorem rU_minus (ih : RAll n) (h : RM w rb tb e T s) (hm : is [45] (s.next T) = true) (hp : ((rd T e n).un s.adv).bind (fun p => (p.2.said s.at_).bind fun v => some (Ex.mk 5 0 [45] [p.1], v)) = some p) : Calls Tryd.prog 114 #[pp rb] w (RPost EVal w rb tb e T p) := by
  obtain ⟨⟨x, s1⟩, h1, hp⟩ := ob hp
  obtain ⟨s2, h2, hp⟩ := ob hp
  obtain rfl : (Ex.mk 5 0 [45] [x], s2) = p := by injection hp
  have HI := Lib.hid ih
  have H1 := Lib.hid h1
  have H2 := Lib.hid h2
  clear ih h1 h2 hp
  have HF := Lib.hid (((RF.start h).make zX 36 (by decide)).make [.string ⟨#[45]⟩, .string ⟨#[33]⟩] 9 (by decide))
  rw [World.size_alloc] at HF
  have hrb := h.rb_lt
  obtain ⟨A0, c0, v0, ⟨q0, q1, q2, q3, q4, q5⟩, _⟩ := h.cells
  clear h q0 q1 q3 q4 q5
  go_enter Tryd.func114, Tryd.ntmps114
  go_wp2_with fail
  refine wp_loop_rounds 1 ?_
  rw [rounds_succ]
  go_wp2_with fail
  refine (rtake_yes HF.out.st [45] hm).mono ?_
  rintro en w1 ⟨rfl, hx, hm⟩
  replace HF := Lib.hid (HF.out.call hx hm)
  clear hx hm
  go_wp2_with fail
  refine (HI.out.un HF.out.st H1.out).mono ?_
  rintro en w2 ⟨v, rfl, ⟨kv, rfl, hr⟩, hx, hm⟩
  replace HF := Lib.hid (HF.out.callE hx hm hr)
  obtain ⟨A2, c2, rfl, _⟩ := hr.slice
  clear hx hm hr
  replace HF := Lib.hid (HF.out.row1 (x := x) (HF.out.getE 0 rfl))
  go_wp2_with fail
  refine (rsaid_calls HF.out.st s.at_ (.int .i64 5) (.int .i64 0) (.string ⟨#[45]⟩) _ ⟨_, _, _, rfl⟩ ⟨_, rfl⟩ ⟨_, rfl⟩ ⟨_, rfl⟩ H2.out).mono ?_
  rintro en w6 ⟨rfl, hx, hm⟩
  replace HF := Lib.hid (HF.out.call hx hm)
  clear hx hm
  obtain ⟨⟨r0, r1, r2, r3⟩, rf, rl, rn⟩ := HF.out.c4 3 rfl
  go_wp2_with fail
  exact rf_endE rfl HF.out 3 rfl rfl fun W h => ⟨_, rfl, ⟨_, rfl, h.outE 0 rfl⟩, h.rx, h.st⟩
set_option maxHeartbeats 4000000 in
set_option maxRecDepth 100000 in
theorem rU_not (ih : RAll n) (h : RM w rb tb e T s) (hm1 : is [45] (s.next T) = false) (hm : is [33] (s.next T) = true) (hp : ((rd T e n).un s.adv).bind (fun p => (p.2.said s.at_).bind fun v => some (Ex.mk 5 0 [33] [p.1], v)) = some p) : Calls Tryd.prog 114 #[pp rb] w (RPost EVal w rb tb e T p) := by
  obtain ⟨⟨x, s1⟩, h1, hp⟩ := ob hp
  obtain ⟨s2, h2, hp⟩ := ob hp
  obtain rfl : (Ex.mk 5 0 [33] [x], s2) = p := by injection hp
  have HI := Lib.hid ih
  have H1 := Lib.hid h1
  have H2 := Lib.hid h2
  clear ih h1 h2 hp
  have HF := Lib.hid (((RF.start h).make zX 36 (by decide)).make [.string ⟨#[45]⟩, .string ⟨#[33]⟩] 9 (by decide))
  rw [World.size_alloc] at HF
  have hrb := h.rb_lt
  obtain ⟨A0, c0, v0, ⟨q0, q1, q2, q3, q4, q5⟩, _⟩ := h.cells
  clear h q0 q1 q3 q4 q5
  go_enter Tryd.func114, Tryd.ntmps114
  go_wp2_with fail
  refine wp_loop_rounds 2 ?_
  rw [rounds_succ]
  go_wp2_with fail
  refine (rtake_no HF.out.st [45] hm1).mono ?_
  rintro en w0 ⟨rfl, hb⟩
  replace HF := Lib.hid (HF.out.below hb)
  clear hb
  obtain ⟨⟨l0, l1⟩, lf, ll, ln⟩ := HF.out.c2 0 rfl
  go_wp2_with fail
  rw [rounds_succ]
  go_wp2_with fail
  refine (rtake_yes HF.out.st [33] hm).mono ?_
  rintro en w1 ⟨rfl, hx, hm⟩
  replace HF := Lib.hid (HF.out.call hx hm)
  clear hx hm
  go_wp2_with fail
  refine (HI.out.un HF.out.st H1.out).mono ?_
  rintro en w2 ⟨v, rfl, ⟨kv, rfl, hr⟩, hx, hm⟩
  replace HF := Lib.hid (HF.out.callE hx hm hr)
  obtain ⟨A2, c2, rfl, _⟩ := hr.slice
  clear hx hm hr
  replace HF := Lib.hid (HF.out.row1 (x := x) (HF.out.getE 0 rfl))
  go_wp2_with fail
  refine (rsaid_calls HF.out.st s.at_ (.int .i64 5) (.int .i64 0) (.string ⟨#[33]⟩) _ ⟨_, _, _, rfl⟩ ⟨_, rfl⟩ ⟨_, rfl⟩ ⟨_, rfl⟩ H2.out).mono ?_
  rintro en w6 ⟨rfl, hx, hm⟩
  replace HF := Lib.hid (HF.out.call hx hm)
  clear hx hm
  obtain ⟨⟨r0, r1, r2, r3⟩, rf, rl, rn⟩ := HF.out.c4 3 rfl
  go_wp2_with fail
  exact rf_endE rfl HF.out 3 rfl rfl fun W h => ⟨_, rfl, ⟨_, rfl, h.outE 0 rfl⟩, h.rx, h.st⟩
set_option maxHeartbeats 4000000 in
set_option maxRecDepth 100000 in
theorem rU_num (h : RM w rb tb e T s) (hm1 : is [45] (s.next T) = false) (hm2 : is [33] (s.next T) = false) (hk : kindOf (s.next T) = 3) (hp : ((s.number T e).2.said s.at_).bind (fun v => some (Ex.mk 1 (s.number T e).1 [] [], v)) = some p) : Calls Tryd.prog 114 #[pp rb] w (RPost EVal w rb tb e T p) := by
  obtain ⟨s2, h2, hp⟩ := ob hp
  obtain rfl : (Ex.mk 1 (s.number T e).1 [] [], s2) = p := by injection hp
  have H2 := Lib.hid h2
  have e1 : ((kindOf (s.next T) : Int) == 3) = true := by simp [hk]
  clear h2 hp hk
  have HF := Lib.hid (((RF.start h).make zX 36 (by decide)).make [.string ⟨#[45]⟩, .string ⟨#[33]⟩] 9 (by decide))
  rw [World.size_alloc] at HF
  have hrb := h.rb_lt
  obtain ⟨A0, c0, v0, ⟨q0, q1, q2, q3, q4, q5⟩, _⟩ := h.cells
  clear h q0 q1 q3 q4 q5
  go_enter Tryd.func114, Tryd.ntmps114
  go_wp2_with fail
  refine wp_loop_rounds 3 ?_
  rw [rounds_succ]
  go_wp2_with fail
  refine (rtake_no HF.out.st [45] hm1).mono ?_
  rintro en w0 ⟨rfl, hb⟩
  replace HF := Lib.hid (HF.out.below hb)
  clear hb
  obtain ⟨⟨l0, l1⟩, lf, ll, ln⟩ := HF.out.c2 0 rfl
  go_wp2_with fail
  rw [rounds_succ]
  go_wp2_with fail
  refine (rtake_no HF.out.st [33] hm2).mono ?_
  rintro en w0 ⟨rfl, hb⟩
  replace HF := Lib.hid (HF.out.below hb)
  clear hb
  obtain ⟨⟨l0, l1⟩, lf, ll, ln⟩ := HF.out.c2 0 rfl
  go_wp2_with fail
  rw [rounds_succ]
  go_wp2_with fail
  refine (rkind_calls HF.out.st).mono ?_
  rintro en w0 ⟨rfl, hb⟩
  replace HF := Lib.hid (HF.out.below hb)
  clear hb
  go_wp2_with fail
  refine (rnumber_calls HF.out.st).mono ?_
  rintro en w2 ⟨rfl, hx, hm⟩
  replace HF := Lib.hid (HF.out.call hx hm)
  clear hx hm e1
  go_wp2_with fail
  refine (rsaid_calls HF.out.st s.at_ (.int .i64 1) (.int .i64 (s.number T e).1) (.string ⟨#[]⟩) (.slice none 0 0) ⟨_, _, _, rfl⟩ ⟨_, rfl⟩ ⟨_, rfl⟩ ⟨_, rfl⟩ H2.out).mono ?_
  rintro en w6 ⟨rfl, hx, hm⟩
  replace HF := Lib.hid (HF.out.call hx hm)
  clear hx hm
  obtain ⟨⟨r0, r1, r2, r3⟩, rf, rl, rn⟩ := HF.out.c4 1 rfl
  go_wp2_with fail
  exact rf_endE rfl HF.out 1 rfl rfl fun W h => ⟨_, rfl, ⟨_, rfl, .nil none 0⟩, h.rx, h.st⟩
set_option maxHeartbeats 4000000 in
set_option maxRecDepth 100000 in
theorem rU_paren (ih : RAll n) (h : RM w rb tb e T s) (hm1 : is [45] (s.next T) = false) (hm2 : is [33] (s.next T) = false) (hk : kindOf (s.next T) ≠ 3) (hq : is [40] (s.next T) = true) (hp : ((rd T e n).expr s.adv).bind (fun p => some (p.1, p.2.must T e [41])) = some p) : Calls Tryd.prog 114 #[pp rb] w (RPost EVal w rb tb e T p) := by
  obtain ⟨⟨x, s1⟩, h1, hp⟩ := ob hp
  obtain rfl : (x, s1.must T e [41]) = p := by injection hp
  have HI := Lib.hid ih
  have H1 := Lib.hid h1
  have e1 : ((kindOf (s.next T) : Int) == 3) = false := beq_eq_false_iff_ne.2 (by omega)
  clear ih h1 hp hk
  have HF := Lib.hid (((RF.start h).make zX 36 (by decide)).make [.string ⟨#[45]⟩, .string ⟨#[33]⟩] 9 (by decide))
  rw [World.size_alloc] at HF
  have hrb := h.rb_lt
  obtain ⟨A0, c0, v0, ⟨q0, q1, q2, q3, q4, q5⟩, _⟩ := h.cells
  clear h q0 q1 q3 q4 q5
  go_enter Tryd.func114, Tryd.ntmps114
  go_wp2_with fail
  refine wp_loop_rounds 3 ?_
  rw [rounds_succ]
  go_wp2_with fail
  refine (rtake_no HF.out.st [45] hm1).mono ?_
  rintro en w0 ⟨rfl, hb⟩
  replace HF := Lib.hid (HF.out.below hb)
  clear hb
  obtain ⟨⟨l0, l1⟩, lf, ll, ln⟩ := HF.out.c2 0 rfl
  go_wp2_with fail
  rw [rounds_succ]
  go_wp2_with fail
  refine (rtake_no HF.out.st [33] hm2).mono ?_
  rintro en w0 ⟨rfl, hb⟩
  replace HF := Lib.hid (HF.out.below hb)
  clear hb
  obtain ⟨⟨l0, l1⟩, lf, ll, ln⟩ := HF.out.c2 0 rfl
  go_wp2_with fail
  rw [rounds_succ]
  go_wp2_with fail
  refine (rkind_calls HF.out.st).mono ?_
  rintro en w0 ⟨rfl, hb⟩
  replace HF := Lib.hid (HF.out.below hb)
  clear hb
  go_wp2_with fail
  refine (rtake_yes HF.out.st [40] hq).mono ?_
  rintro en w1 ⟨rfl, hx, hm⟩
  replace HF := Lib.hid (HF.out.call hx hm)
  clear hx hm
  clear e1
  go_wp2_with fail
  refine (HI.out.expr HF.out.st H1.out).mono ?_
  rintro en w2 ⟨v, rfl, ⟨kv, rfl, hr⟩, hx, hm⟩
  replace HF := Lib.hid (HF.out.callE hx hm hr)
  obtain ⟨A2, c2, rfl, _⟩ := hr.slice
  replace HF := Lib.hid (HF.out.make [.int .i64 x.kind, .int .i64 x.num, .string (ba x.name), .slice A2 x.kids.length c2] 36 (by decide))
  clear hx hm hr
  go_wp2_with fail
  refine (rmust_calls HF.out.st [41]).mono ?_
  rintro en w4 ⟨rfl, hx, hm⟩
  replace HF := Lib.hid (HF.out.call hx hm)
  clear hx hm
  obtain ⟨⟨x0, x1, x2, x3⟩, _⟩ := HF.out.c4 0 rfl
  obtain ⟨⟨r0, r1, r2, r3⟩, rf, rl, rn⟩ := HF.out.c4 3 rfl
  go_wp2_with fail
  exact rf_endE rfl HF.out 3 rfl rfl fun W h => ⟨_, rfl, ⟨_, rfl, h.outE 1 rfl⟩, h.rx, h.st⟩
set_option maxHeartbeats 4000000 in
set_option maxRecDepth 100000 in
theorem rU_name (ih : RAll n) (h : RM w rb tb e T s) (hm1 : is [45] (s.next T) = false) (hm2 : is [33] (s.next T) = false) (hk : kindOf (s.next T) ≠ 3) (hq : is [40] (s.next T) = false) (h5 : is [91] ((s.name T e).2.next T) = false) (h6 : is [40] ((s.name T e).2.next T) = false) (hp : ((s.name T e).2.said s.at_).bind (fun v => some (Ex.mk 2 0 (s.name T e).1 [], v)) = some p) : Calls Tryd.prog 114 #[pp rb] w (RPost EVal w rb tb e T p) := by
  have HNM := Lib.hid (fun (w' : World) (h' : RM w' rb tb e T s) => rname_calls h')
  generalize s.name T e = q at HNM hp h5 h6
  obtain ⟨s2, h2, hp⟩ := ob hp
  obtain rfl : (Ex.mk 2 0 q.1 [], s2) = p := by injection hp
  have H2 := Lib.hid h2
  clear h2
  have HI := Lib.hid ih
  have e1 : ((kindOf (s.next T) : Int) == 3) = false := beq_eq_false_iff_ne.2 (by omega)
  clear ih hp hk
  have HF := Lib.hid (((RF.start h).make zX 36 (by decide)).make [.string ⟨#[45]⟩, .string ⟨#[33]⟩] 9 (by decide))
  rw [World.size_alloc] at HF
  have hrb := h.rb_lt
  obtain ⟨A0, c0, v0, ⟨q0, q1, q2, q3, q4, q5⟩, _⟩ := h.cells
  clear h q0 q1 q3 q4 q5
  go_enter Tryd.func114, Tryd.ntmps114
  go_wp2_with fail
  refine wp_loop_rounds 3 ?_
  rw [rounds_succ]
  go_wp2_with fail
  refine (rtake_no HF.out.st [45] hm1).mono ?_
  rintro en w0 ⟨rfl, hb⟩
  replace HF := Lib.hid (HF.out.below hb)
  clear hb
  obtain ⟨⟨l0, l1⟩, lf, ll, ln⟩ := HF.out.c2 0 rfl
  go_wp2_with fail
  rw [rounds_succ]
  go_wp2_with fail
  refine (rtake_no HF.out.st [33] hm2).mono ?_
  rintro en w0 ⟨rfl, hb⟩
  replace HF := Lib.hid (HF.out.below hb)
  clear hb
  obtain ⟨⟨l0, l1⟩, lf, ll, ln⟩ := HF.out.c2 0 rfl
  go_wp2_with fail
  rw [rounds_succ]
  go_wp2_with fail
  refine (rkind_calls HF.out.st).mono ?_
  rintro en w0 ⟨rfl, hb⟩
  replace HF := Lib.hid (HF.out.below hb)
  clear hb
  go_wp2_with fail
  refine (rtake_no HF.out.st [40] hq).mono ?_
  rintro en w0 ⟨rfl, hb⟩
  replace HF := Lib.hid (HF.out.below hb)
  clear hb
  go_wp2_with fail
  refine (HNM.out _ HF.out.st).mono ?_
  rintro en w2 ⟨rfl, hx, hm⟩
  replace HF := Lib.hid (HF.out.call hx hm)
  clear hx hm e1
  replace HF := Lib.hid (HF.out.make [.int .i64 2, .int .i64 0, .string (ba q.1), .slice none 0 0] 36 (by decide))
  go_wp2_with fail
  refine (rtake_no HF.out.st [91] h5).mono ?_
  rintro en w0 ⟨rfl, hb⟩
  replace HF := Lib.hid (HF.out.below hb)
  clear hb
  go_wp2_with fail
  refine (rtake_no HF.out.st [40] h6).mono ?_
  rintro en w0 ⟨rfl, hb⟩
  replace HF := Lib.hid (HF.out.below hb)
  clear hb
  obtain ⟨⟨x0, x1, x2, x3⟩, _⟩ := HF.out.c4 0 rfl
  go_wp2_with fail
  refine (rsaid_calls HF.out.st s.at_ (.int .i64 2) (.int .i64 0) (.string (ba q.1)) (.slice none 0 0) ⟨_, _, _, rfl⟩ ⟨_, rfl⟩ ⟨_, rfl⟩ ⟨_, rfl⟩ H2.out).mono ?_
  rintro en w6 ⟨rfl, hx, hm⟩
  replace HF := Lib.hid (HF.out.call hx hm)
  clear hx hm
  obtain ⟨⟨r0, r1, r2, r3⟩, rf, rl, rn⟩ := HF.out.c4 2 rfl
  go_wp2_with fail
  exact rf_endE rfl HF.out 2 rfl rfl fun W h => ⟨_, rfl, ⟨_, rfl, .nil none 0⟩, h.rx, h.st⟩
set_option maxHeartbeats 4000000 in
set_option maxRecDepth 100000 in
theorem rU_call (ih : RAll n) (h : RM w rb tb e T s) (hm1 : is [45] (s.next T) = false) (hm2 : is [33] (s.next T) = false) (hk : kindOf (s.next T) ≠ 3) (hq : is [40] (s.next T) = false) (h5 : is [91] ((s.name T e).2.next T) = false) (h6 : is [40] ((s.name T e).2.next T) = true) (hp : ((rd T e n).args true [] (s.name T e).2.adv).bind (fun p => (p.2.said s.at_).bind fun v => some (Ex.mk 4 0 (s.name T e).1 p.1, v)) = some p) : Calls Tryd.prog 114 #[pp rb] w (RPost EVal w rb tb e T p) := by
  have HNM := Lib.hid (fun (w' : World) (h' : RM w' rb tb e T s) => rname_calls h')
  generalize s.name T e = q at HNM hp h5 h6
  obtain ⟨⟨xs, s1⟩, h1, hp⟩ := ob hp
  obtain ⟨s2, h2, hp⟩ := ob hp
  obtain rfl : (Ex.mk 4 0 q.1 xs, s2) = p := by injection hp
  have H1 := Lib.hid h1
  have H2 := Lib.hid h2
  clear h1 h2
  have HI := Lib.hid ih
  have e1 : ((kindOf (s.next T) : Int) == 3) = false := beq_eq_false_iff_ne.2 (by omega)
  clear ih hp hk
  have HF := Lib.hid (((RF.start h).make zX 36 (by decide)).make [.string ⟨#[45]⟩, .string ⟨#[33]⟩] 9 (by decide))
  rw [World.size_alloc] at HF
  have hrb := h.rb_lt
  obtain ⟨A0, c0, v0, ⟨q0, q1, q2, q3, q4, q5⟩, _⟩ := h.cells
  clear h q0 q1 q3 q4 q5
  go_enter Tryd.func114, Tryd.ntmps114
  go_wp2_with fail
  refine wp_loop_rounds 3 ?_
  rw [rounds_succ]
  go_wp2_with fail
  refine (rtake_no HF.out.st [45] hm1).mono ?_
  rintro en w0 ⟨rfl, hb⟩
  replace HF := Lib.hid (HF.out.below hb)
  clear hb
  obtain ⟨⟨l0, l1⟩, lf, ll, ln⟩ := HF.out.c2 0 rfl
  go_wp2_with fail
  rw [rounds_succ]
  go_wp2_with fail
  refine (rtake_no HF.out.st [33] hm2).mono ?_
  rintro en w0 ⟨rfl, hb⟩
  replace HF := Lib.hid (HF.out.below hb)
  clear hb
  obtain ⟨⟨l0, l1⟩, lf, ll, ln⟩ := HF.out.c2 0 rfl
  go_wp2_with fail
  rw [rounds_succ]
  go_wp2_with fail
  refine (rkind_calls HF.out.st).mono ?_
  rintro en w0 ⟨rfl, hb⟩
  replace HF := Lib.hid (HF.out.below hb)
  clear hb
  go_wp2_with fail
  refine (rtake_no HF.out.st [40] hq).mono ?_
  rintro en w0 ⟨rfl, hb⟩
  replace HF := Lib.hid (HF.out.below hb)
  clear hb
  go_wp2_with fail
  refine (HNM.out _ HF.out.st).mono ?_
  rintro en w2 ⟨rfl, hx, hm⟩
  replace HF := Lib.hid (HF.out.call hx hm)
  clear hx hm e1
  replace HF := Lib.hid (HF.out.make [.int .i64 2, .int .i64 0, .string (ba q.1), .slice none 0 0] 36 (by decide))
  go_wp2_with fail
  refine (rtake_no HF.out.st [91] h5).mono ?_
  rintro en w0 ⟨rfl, hb⟩
  replace HF := Lib.hid (HF.out.below hb)
  clear hb
  go_wp2_with fail
  refine (rtake_yes HF.out.st [40] h6).mono ?_
  rintro en w1 ⟨rfl, hx, hm⟩
  replace HF := Lib.hid (HF.out.call hx hm)
  clear hx hm
  obtain ⟨⟨x0, x1, x2, x3⟩, xf, xl, xn⟩ := HF.out.c4 0 rfl
  go_wp2_with fail
  clear x0 x1 x2 x3 xf xl xn
  replace HF := Lib.hid (HF.out.set 0 rfl 0 (.int .i64 4))
  refine (HI.out.args HF.out.st H1.out).mono ?_
  rintro en w5 ⟨v, rfl, hr, hx, hm⟩
  replace HF := Lib.hid (HF.out.callE hx hm hr)
  obtain ⟨A5, c5, rfl, _⟩ := hr.slice
  clear hx hm hr
  obtain ⟨⟨x0, x1, x2, x3⟩, xf, xl, xn⟩ := HF.out.c4 1 rfl
  replace HF := Lib.hid (HF.out.set 1 rfl 3 (.slice A5 xs.length c5))
  go_wp2_with fail
  refine (rsaid_calls HF.out.st s.at_ (.int .i64 4) (.int .i64 0) (.string (ba q.1)) (.slice A5 xs.length c5) ⟨_, _, _, rfl⟩ ⟨_, rfl⟩ ⟨_, rfl⟩ ⟨_, rfl⟩ H2.out).mono ?_
  rintro en w6 ⟨rfl, hx, hm⟩
  replace HF := Lib.hid (HF.out.call hx hm)
  clear hx hm
  clear x0 x1 x2 x3 xf xl xn
  obtain ⟨⟨r0, r1, r2, r3⟩, rf, rl, rn⟩ := HF.out.c4 3 rfl
  go_wp2_with fail
  exact rf_endE rfl HF.out 3 rfl rfl fun W h => ⟨_, rfl, ⟨_, rfl, h.outE 0 rfl⟩, h.rx, h.st⟩
set_option maxHeartbeats 4000000 in
set_option maxRecDepth 100000 in
theorem rU_index (ih : RAll n) (h : RM w rb tb e T s) (hm1 : is [45] (s.next T) = false) (hm2 : is [33] (s.next T) = false) (hk : kindOf (s.next T) ≠ 3) (hq : is [40] (s.next T) = false) (h5 : is [91] ((s.name T e).2.next T) = true) (hp : ((rd T e n).expr (s.name T e).2.adv).bind (fun p => ((p.2.must T e [93]).said s.at_).bind fun v => some (Ex.mk 3 0 (s.name T e).1 [p.1], v)) = some p) : Calls Tryd.prog 114 #[pp rb] w (RPost EVal w rb tb e T p) := by
  have HNM := Lib.hid (fun (w' : World) (h' : RM w' rb tb e T s) => rname_calls h')
  generalize s.name T e = q at HNM hp h5
  obtain ⟨⟨x, s1⟩, h1, hp⟩ := ob hp
  obtain ⟨s2, h2, hp⟩ := ob hp
  obtain rfl : (Ex.mk 3 0 q.1 [x], s2) = p := by injection hp
  have H1 := Lib.hid h1
  have H2 := Lib.hid h2
  clear h1 h2
  have HI := Lib.hid ih
  have e1 : ((kindOf (s.next T) : Int) == 3) = false := beq_eq_false_iff_ne.2 (by omega)
  clear ih hp hk
  have HF := Lib.hid (((RF.start h).make zX 36 (by decide)).make [.string ⟨#[45]⟩, .string ⟨#[33]⟩] 9 (by decide))
  rw [World.size_alloc] at HF
  have hrb := h.rb_lt
  obtain ⟨A0, c0, v0, ⟨q0, q1, q2, q3, q4, q5⟩, _⟩ := h.cells
  clear h q0 q1 q3 q4 q5
  go_enter Tryd.func114, Tryd.ntmps114
  go_wp2_with fail
  refine wp_loop_rounds 3 ?_
  rw [rounds_succ]
  go_wp2_with fail
  refine (rtake_no HF.out.st [45] hm1).mono ?_
  rintro en w0 ⟨rfl, hb⟩
  replace HF := Lib.hid (HF.out.below hb)
  clear hb
  obtain ⟨⟨l0, l1⟩, lf, ll, ln⟩ := HF.out.c2 0 rfl
  go_wp2_with fail
  rw [rounds_succ]
  go_wp2_with fail
  refine (rtake_no HF.out.st [33] hm2).mono ?_
  rintro en w0 ⟨rfl, hb⟩
  replace HF := Lib.hid (HF.out.below hb)
  clear hb
  obtain ⟨⟨l0, l1⟩, lf, ll, ln⟩ := HF.out.c2 0 rfl
  go_wp2_with fail
  rw [rounds_succ]
  go_wp2_with fail
  refine (rkind_calls HF.out.st).mono ?_
  rintro en w0 ⟨rfl, hb⟩
  replace HF := Lib.hid (HF.out.below hb)
  clear hb
  go_wp2_with fail
  refine (rtake_no HF.out.st [40] hq).mono ?_
  rintro en w0 ⟨rfl, hb⟩
  replace HF := Lib.hid (HF.out.below hb)
  clear hb
  go_wp2_with fail
  refine (HNM.out _ HF.out.st).mono ?_
  rintro en w2 ⟨rfl, hx, hm⟩
  replace HF := Lib.hid (HF.out.call hx hm)
  clear hx hm e1
  replace HF := Lib.hid (HF.out.make [.int .i64 2, .int .i64 0, .string (ba q.1), .slice none 0 0] 36 (by decide))
  go_wp2_with fail
  refine (rtake_yes HF.out.st [91] h5).mono ?_
  rintro en w1 ⟨rfl, hx, hm⟩
  replace HF := Lib.hid (HF.out.call hx hm)
  clear hx hm
  obtain ⟨⟨x0, x1, x2, x3⟩, xf, xl, xn⟩ := HF.out.c4 0 rfl
  go_wp2_with fail
  clear x0 x1 x2 x3 xf xl xn
  replace HF := Lib.hid (HF.out.set 0 rfl 0 (.int .i64 3))
  refine (HI.out.expr HF.out.st H1.out).mono ?_
  rintro en w5 ⟨v, rfl, ⟨kv, rfl, hr⟩, hx, hm⟩
  replace HF := Lib.hid (HF.out.callE hx hm hr)
  obtain ⟨A5, c5, rfl, _⟩ := hr.slice
  clear hx hm hr
  replace HF := Lib.hid (HF.out.row1 (x := x) (HF.out.getE 0 rfl))
  obtain ⟨⟨x0, x1, x2, x3⟩, xf, xl, xn⟩ := HF.out.c4 2 rfl
  replace HF := Lib.hid (HF.out.set 2 rfl 3 (.slice (some ⟨w5.heap.size, 0, none⟩) 1 1))
  go_wp2_with fail
  clear x0 x1 x2 x3 xf xl xn
  refine (rmust_calls HF.out.st [93]).mono ?_
  rintro en w4 ⟨rfl, hx, hm⟩
  replace HF := Lib.hid (HF.out.call hx hm)
  clear hx hm
  obtain ⟨⟨x0, x1, x2, x3⟩, xf, xl, xn⟩ := HF.out.c4 2 rfl
  go_wp2_with fail
  refine (rsaid_calls HF.out.st s.at_ (.int .i64 3) (.int .i64 0) (.string (ba q.1)) (.slice (some ⟨w5.heap.size, 0, none⟩) 1 1) ⟨_, _, _, rfl⟩ ⟨_, rfl⟩ ⟨_, rfl⟩ ⟨_, rfl⟩ H2.out).mono ?_
  rintro en w6 ⟨rfl, hx, hm⟩
  replace HF := Lib.hid (HF.out.call hx hm)
  clear hx hm
  clear x0 x1 x2 x3 xf xl xn
  obtain ⟨⟨r0, r1, r2, r3⟩, rf, rl, rn⟩ := HF.out.c4 4 rfl
  go_wp2_with fail
  exact rf_endE rfl HF.out 4 rfl rfl fun W h => ⟨_, rfl, ⟨_, rfl, h.outE 0 rfl⟩, h.rx, h.st⟩
theorem rU_step (ih : RAll n) (h : RM w rb tb e T s) (hp : (rd T e (n + 1)).un s = some p) : Calls Tryd.prog 114 #[pp rb] w (RPost EVal w rb tb e T p) := by
  replace hp : rUn T e (rd T e n) s = some p := hp
  unfold rUn at hp
  cases h1 : is [45] (s.next T) with
  | true =>
    rw [h1] at hp
    exact rU_minus ih h h1 hp
  | false =>
    rw [h1] at hp
    simp only [Bool.false_eq_true, if_false] at hp
    cases h2 : is [33] (s.next T) with
    | true =>
      rw [h2] at hp
      exact rU_not ih h h1 h2 hp
    | false =>
      rw [h2] at hp
      simp only [Bool.false_eq_true, if_false] at hp
      by_cases hk : kindOf (s.next T) = 3
      · rw [if_pos hk] at hp
        exact rU_num h h1 h2 hk hp
      · rw [if_neg hk] at hp
        cases h4 : is [40] (s.next T) with
        | true =>
          rw [h4] at hp
          exact rU_paren ih h h1 h2 hk h4 hp
        | false =>
          rw [h4] at hp
          simp only [Bool.false_eq_true, if_false] at hp
          cases h5 : is [91] ((s.name T e).2.next T) with
          | true =>
            rw [h5] at hp
            exact rU_index ih h h1 h2 hk h4 h5 hp
          | false =>
            rw [h5] at hp
            simp only [Bool.false_eq_true, if_false] at hp
            cases h6 : is [40] ((s.name T e).2.next T) with
            | true =>
              rw [h6] at hp
              exact rU_call ih h h1 h2 hk h4 h5 h6 hp
            | false =>
              rw [h6] at hp
              exact rU_name ih h h1 h2 hk h4 h5 h6 hp
end
end Go.Proofs.YtdijffojppjmfaaDoor
set_option linter.unusedVariables false
set_option linter.unusedSimpArgs false
namespace Go.Proofs.YtdijffojppjmfaaDoor
open Go.RowKit Bir Go.BW
section
variable {w : World} {rb tb e n : Nat} {T : List Tok} {s : RS} {p : List Ex × RS}
theorem rbegins_calls (h : RM w rb tb e T s) : Calls Tryd.prog 160 #[pp rb] w fun r w' => r = .returned (.bool (Bir.begins (s.next T))) ∧ Below w.heap.size w w' := by
  generalize hl : s.next T = l
  have HL := Lib.hid hl
  have HK : Hid (∀ w', RM w' rb tb e T s → Calls Tryd.prog 110 #[pp rb] w' fun r w'' => r = .returned (.int .i64 (kindOf l)) ∧ Below w'.heap.size w' w'') := Lib.hid fun w' h' => by rw [← hl]; exact rkind_calls h'
  have HI : Hid (∀ w' t, RM w' rb tb e T s → Calls Tryd.prog 76 #[pp rb, .string (ba t)] w' fun r w'' => r = .returned (.bool (Bir.is t l)) ∧ Below w'.heap.size w' w'') := Lib.hid fun w' t h' => by rw [← hl]; exact ris_calls h' t
  clear hl
  have H := Lib.hid h
  clear h
  by_cases h1 : kindOf l = 1
  · have hf : Bir.begins l = true := by simp [Bir.begins, h1]
    have e1 : ((kindOf l : Int) == 1) = true := by simp [h1]
    rw [hf]
    clear hf h1
    go_enter Tryd.func160, Tryd.ntmps160
    go_wp2_with fail
    refine (HK.out _ H.out).mono ?_
    rintro en w1 ⟨rfl, hb1⟩
    go_wp2_with fail
    go_ret
    exact ⟨rfl, hb1⟩
  · have e1 : ((kindOf l : Int) == 1) = false := beq_eq_false_iff_ne.2 (by omega)
    by_cases h3 : kindOf l = 3
    · have hf : Bir.begins l = true := by simp [Bir.begins, h3]
      have e3 : ((kindOf l : Int) == 3) = true := by simp [h3]
      rw [hf]
      clear hf h1 h3
      go_enter Tryd.func160, Tryd.ntmps160
      go_wp2_with fail
      refine (HK.out _ H.out).mono ?_
      rintro en w1 ⟨rfl, hb1⟩
      replace H := Lib.hid (RSt.below H.out hb1)
      go_wp2_with fail
      refine (HK.out _ H.out).mono ?_
      rintro en w2 ⟨rfl, hb2⟩
      go_wp2_with fail
      go_ret
      exact ⟨rfl, hb1.trans (hb2.mono hb1.size)⟩
    · have e3 : ((kindOf l : Int) == 3) = false := beq_eq_false_iff_ne.2 (by omega)
      have hf : Bir.begins l = (Bir.is [40] l || Bir.is [45] l || Bir.is [33] l) := by simp [Bir.begins, beq_eq_false_iff_ne.2 h1, beq_eq_false_iff_ne.2 h3]
      rw [hf]
      clear hf h1 h3
      cases c40 : Bir.is [40] l with
      | true =>
        go_enter Tryd.func160, Tryd.ntmps160
        go_wp2_with fail
        refine (HK.out _ H.out).mono ?_
        rintro en w1 ⟨rfl, hb1⟩
        replace H := Lib.hid (RSt.below H.out hb1)
        go_wp2_with fail
        refine (HK.out _ H.out).mono ?_
        rintro en w2 ⟨rfl, hb2⟩
        replace H := Lib.hid (RSt.below H.out hb2)
        replace hb1 := hb1.trans (hb2.mono hb1.size)
        clear hb2
        go_wp2_with fail
        refine (HI.out _ [40] H.out).mono ?_
        rw [c40]
        rintro en w2 ⟨rfl, hb2⟩
        replace H := Lib.hid (RSt.below H.out hb2)
        replace hb1 := hb1.trans (hb2.mono hb1.size)
        clear hb2
        go_wp2_with fail
        go_ret
        exact ⟨rfl, hb1⟩
      | false =>
        cases c45 : Bir.is [45] l with
        | true =>
          go_enter Tryd.func160, Tryd.ntmps160
          go_wp2_with fail
          refine (HK.out _ H.out).mono ?_
          rintro en w1 ⟨rfl, hb1⟩
          replace H := Lib.hid (RSt.below H.out hb1)
          go_wp2_with fail
          refine (HK.out _ H.out).mono ?_
          rintro en w2 ⟨rfl, hb2⟩
          replace H := Lib.hid (RSt.below H.out hb2)
          replace hb1 := hb1.trans (hb2.mono hb1.size)
          clear hb2
          go_wp2_with fail
          refine (HI.out _ [40] H.out).mono ?_
          rw [c40]
          rintro en w2 ⟨rfl, hb2⟩
          replace H := Lib.hid (RSt.below H.out hb2)
          replace hb1 := hb1.trans (hb2.mono hb1.size)
          clear hb2
          go_wp2_with fail
          refine (HI.out _ [45] H.out).mono ?_
          rw [c45]
          rintro en w2 ⟨rfl, hb2⟩
          replace H := Lib.hid (RSt.below H.out hb2)
          replace hb1 := hb1.trans (hb2.mono hb1.size)
          clear hb2
          go_wp2_with fail
          go_ret
          exact ⟨rfl, hb1⟩
        | false =>
          cases c33 : Bir.is [33] l with
          | true =>
            go_enter Tryd.func160, Tryd.ntmps160
            go_wp2_with fail
            refine (HK.out _ H.out).mono ?_
            rintro en w1 ⟨rfl, hb1⟩
            replace H := Lib.hid (RSt.below H.out hb1)
            go_wp2_with fail
            refine (HK.out _ H.out).mono ?_
            rintro en w2 ⟨rfl, hb2⟩
            replace H := Lib.hid (RSt.below H.out hb2)
            replace hb1 := hb1.trans (hb2.mono hb1.size)
            clear hb2
            go_wp2_with fail
            refine (HI.out _ [40] H.out).mono ?_
            rw [c40]
            rintro en w2 ⟨rfl, hb2⟩
            replace H := Lib.hid (RSt.below H.out hb2)
            replace hb1 := hb1.trans (hb2.mono hb1.size)
            clear hb2
            go_wp2_with fail
            refine (HI.out _ [45] H.out).mono ?_
            rw [c45]
            rintro en w2 ⟨rfl, hb2⟩
            replace H := Lib.hid (RSt.below H.out hb2)
            replace hb1 := hb1.trans (hb2.mono hb1.size)
            clear hb2
            go_wp2_with fail
            refine (HI.out _ [33] H.out).mono ?_
            rw [c33]
            rintro en w2 ⟨rfl, hb2⟩
            replace H := Lib.hid (RSt.below H.out hb2)
            replace hb1 := hb1.trans (hb2.mono hb1.size)
            clear hb2
            go_wp2_with fail
            go_ret
            exact ⟨rfl, hb1⟩
          | false =>
            go_enter Tryd.func160, Tryd.ntmps160
            go_wp2_with fail
            refine (HK.out _ H.out).mono ?_
            rintro en w1 ⟨rfl, hb1⟩
            replace H := Lib.hid (RSt.below H.out hb1)
            go_wp2_with fail
            refine (HK.out _ H.out).mono ?_
            rintro en w2 ⟨rfl, hb2⟩
            replace H := Lib.hid (RSt.below H.out hb2)
            replace hb1 := hb1.trans (hb2.mono hb1.size)
            clear hb2
            go_wp2_with fail
            refine (HI.out _ [40] H.out).mono ?_
            rw [c40]
            rintro en w2 ⟨rfl, hb2⟩
            replace H := Lib.hid (RSt.below H.out hb2)
            replace hb1 := hb1.trans (hb2.mono hb1.size)
            clear hb2
            go_wp2_with fail
            refine (HI.out _ [45] H.out).mono ?_
            rw [c45]
            rintro en w2 ⟨rfl, hb2⟩
            replace H := Lib.hid (RSt.below H.out hb2)
            replace hb1 := hb1.trans (hb2.mono hb1.size)
            clear hb2
            go_wp2_with fail
            refine (HI.out _ [33] H.out).mono ?_
            rw [c33]
            rintro en w2 ⟨rfl, hb2⟩
            replace H := Lib.hid (RSt.below H.out hb2)
            replace hb1 := hb1.trans (hb2.mono hb1.size)
            clear hb2
            go_wp2_with fail
            go_ret
            exact ⟨rfl, hb1⟩
set_option maxHeartbeats 8000000 in
set_option maxRecDepth 100000 in
theorem rargs_step (hn9 : n ≤ 1000000000) (ih : ∀ m, m < n → RAll m) (h : RM w rb tb e T s) (hp : (rd T e n).args true [] s = some p) : Calls Tryd.prog 133 #[pp rb] w (RPost ERow w rb tb e T p) := by
  have HP := Lib.hid hp
  have HI := Lib.hid ih
  have HF0 := Lib.hid (RF.start h)
  clear ih hp h
  go_enter Tryd.func133, Tryd.ntmps133
  go_wp2_with fail
  go_loopg [3, 4] n (fun gk v fv wr => ∃ first xs s', RF w wr rb tb e T s' [.accE v xs] ∧ fv = .bool first ∧ Hid ((rd T e gk).args first xs s' = some p) ∧ xs.length + gk ≤ n)
  case atStart => exact ⟨true, [], s, HF0.out.acc0E, rfl, HP, by simp⟩
  case round =>
    obtain ⟨first, xs, s', hrf, rfl, hg, hlen⟩ := hrel
    clear HF0 HP
    cases gk with
    | zero => exact absurd hg.out (by simp [rd])
    | succ m =>
      have hgm : rArgs T e (rd T e m) first xs s' = some p := hg.out
      have HF := Lib.hid hrf
      have hrbl := hrf.st.rb_lt
      obtain ⟨A0, c0, v0, ⟨q0, q1, q2, q3, q4, q5⟩, _⟩ := hrf.st.cells
      obtain ⟨A, c, rfl, _⟩ := (hrf.rowOf 0 rfl).slice
      clear hg hrf q0 q1 q2 q4 q5
      unfold rArgs at hgm
      cases hm : moreR T first s' with
      | false =>
        rw [hm] at hgm
        simp only [Bool.false_eq_true, if_false] at hgm
        obtain rfl : (xs, s'.must T e [41]) = p := by injection hgm
        clear hgm
        by_cases hk : s'.k = 0
        · rw [hk] at q3
          cases first with
          | true =>
            have h41 : Bir.is [41] (s'.next T) = true := by simpa [moreR, hk] using hm
            clear hm hk
            go_wp2_with fail
            refine (ris_calls HF.out.st [41]).mono ?_
            rw [h41]
            rintro en w2 ⟨rfl, hb⟩
            replace HF := Lib.hid (HF.out.below hb)
            clear hb h41
            go_wp2_with fail
            refine (rmust_calls HF.out.st [41]).mono ?_
            rintro en w3 ⟨rfl, hx, hm⟩
            replace HF := Lib.hid (HF.out.call hx hm)
            clear hx hm
            go_wp2_with fail
            go_ret
            exact ⟨_, rfl, HF.out.rowOf 0 rfl, HF.out.rx, HF.out.st⟩
          | false =>
            have h44 : Bir.is [44] (s'.next T) = false := by simpa [moreR, hk] using hm
            clear hm hk
            go_wp2_with fail
            refine (rtake_no HF.out.st [44] h44).mono ?_
            rintro en w2 ⟨rfl, hb⟩
            replace HF := Lib.hid (HF.out.below hb)
            clear hb h44
            go_wp2_with fail
            refine (rmust_calls HF.out.st [41]).mono ?_
            rintro en w3 ⟨rfl, hx, hm⟩
            replace HF := Lib.hid (HF.out.call hx hm)
            clear hx hm
            go_wp2_with fail
            go_ret
            exact ⟨_, rfl, HF.out.rowOf 0 rfl, HF.out.rx, HF.out.st⟩
        · have e0 : ((s'.k : Int) == 0) = false := beq_eq_false_iff_ne.2 (by omega)
          clear hm hk
          go_wp2_with fail
          refine (rmust_calls HF.out.st [41]).mono ?_
          rintro en w3 ⟨rfl, hx, hm⟩
          replace HF := Lib.hid (HF.out.call hx hm)
          clear hx hm
          go_wp2_with fail
          go_ret
          exact ⟨_, rfl, HF.out.rowOf 0 rfl, HF.out.rx, HF.out.st⟩
      | true =>
        rw [hm] at hgm
        simp only [if_true] at hgm
        obtain ⟨⟨x, s3⟩, h3, hgm⟩ := ob hgm
        have HG := Lib.hid hgm
        have hk : s'.k = 0 := by
          unfold moreR at hm
          cases hkk : (s'.k == 0) with
          | true => exact beq_iff_eq.1 hkk
          | false => rw [hkk] at hm; cases hm
        rw [hk] at q3
        clear hgm
        cases first with
        | true =>
          have h41 : Bir.is [41] (s'.next T) = false := by simpa [moreR, hk] using hm
          have H3 : Hid ((rd T e m).expr (if 8 ≤ xs.length ∧ begins (s'.next T) = true then s'.stop T e 3 else s') = some (x, s3)) := Lib.hid h3
          clear h3 hm hk
          go_wp2_with fail
          refine (ris_calls HF.out.st [41]).mono ?_
          rw [h41]
          rintro en w2 ⟨rfl, hb⟩
          replace HF := Lib.hid (HF.out.below hb)
          clear hb h41
          generalize s' = s1 at HF H3
          by_cases h8 : 8 ≤ xs.length
          · have e8 : decide ((8 : Int) ≤ (xs.length : Int)) = true := by simp; omega
            have e8' : decide ((xs.length : Int) < 8) = false := by simp; omega
            cases hbg : begins (s1.next T) with
            | true =>
              rw [if_pos ⟨h8, hbg⟩] at H3
              clear h8
              go_wp2_with fail
              refine (rbegins_calls HF.out.st).mono ?_
              rw [hbg]
              rintro en w3 ⟨rfl, hb⟩
              replace HF := Lib.hid (HF.out.below hb)
              clear hb hbg
              go_wp2_with fail
              refine (rstop_calls HF.out.st 3 (by omega)).mono ?_
              rintro en w4 ⟨rfl, hx, hm⟩
              replace HF := Lib.hid (HF.out.call hx hm)
              clear hx hm
              go_wp2_with fail
              refine ((HI.out m (by omega)).expr HF.out.st H3.out).mono ?_
              rintro en w5 ⟨v, rfl, ⟨kv, rfl, hr⟩, hx, hm⟩
              replace HF := Lib.hid (HF.out.callE hx hm hr)
              obtain ⟨A5, c5, rfl, _⟩ := hr.slice
              obtain ⟨cs, ho, hc⟩ := HF.out.accE 1 rfl
              have hsz := HF.out.size
              have HO := Lib.hid ho
              have HC := Lib.hid hc
              clear hx hm hr ho hc
              go_wp2_with (at_builtin; refine append_one w5 w.heap.size rfl _ _ 34 36 _ 4 56 rfl Tryd.underlying34 infoE rfl (by decide) (by decide) (.slice A xs.length c) xs.length cs [.int .i64 x.kind, .int .i64 x.num, .string (ba x.name), .slice A5 x.kids.length c5] rfl rfl rfl (by simp [Value.oneCell']) HO.out hsz (by omega) ?_; intro v1 w7 hown7 hg7 hat7; replace HF := Lib.hid (HF.out.appE 1 rfl HC.out (HF.out.getE 0 rfl) hown7 hg7 hat7); clear hown7 hg7 hat7)
              go_roundg m
              case measure => omega
              case rel => exact ⟨false, xs ++ [x], s3, HF.out.drop (List.sublist_cons_self _ _), rfl, HG, by simp; omega⟩
            | false =>
              rw [if_neg (fun hh => by rw [hbg] at hh; cases hh.2)] at H3
              clear h8
              go_wp2_with fail
              refine (rbegins_calls HF.out.st).mono ?_
              rw [hbg]
              rintro en w3 ⟨rfl, hb⟩
              replace HF := Lib.hid (HF.out.below hb)
              clear hb hbg
              go_wp2_with fail
              refine ((HI.out m (by omega)).expr HF.out.st H3.out).mono ?_
              rintro en w5 ⟨v, rfl, ⟨kv, rfl, hr⟩, hx, hm⟩
              replace HF := Lib.hid (HF.out.callE hx hm hr)
              obtain ⟨A5, c5, rfl, _⟩ := hr.slice
              obtain ⟨cs, ho, hc⟩ := HF.out.accE 1 rfl
              have hsz := HF.out.size
              have HO := Lib.hid ho
              have HC := Lib.hid hc
              clear hx hm hr ho hc
              go_wp2_with (at_builtin; refine append_one w5 w.heap.size rfl _ _ 34 36 _ 4 56 rfl Tryd.underlying34 infoE rfl (by decide) (by decide) (.slice A xs.length c) xs.length cs [.int .i64 x.kind, .int .i64 x.num, .string (ba x.name), .slice A5 x.kids.length c5] rfl rfl rfl (by simp [Value.oneCell']) HO.out hsz (by omega) ?_; intro v1 w7 hown7 hg7 hat7; replace HF := Lib.hid (HF.out.appE 1 rfl HC.out (HF.out.getE 0 rfl) hown7 hg7 hat7); clear hown7 hg7 hat7)
              go_roundg m
              case measure => omega
              case rel => exact ⟨false, xs ++ [x], s3, HF.out.drop (List.sublist_cons_self _ _), rfl, HG, by simp; omega⟩
          · have e8 : decide ((8 : Int) ≤ (xs.length : Int)) = false := by simp; omega
            have e8' : decide ((xs.length : Int) < 8) = true := by simp; omega
            rw [if_neg (fun hh => h8 hh.1)] at H3
            clear h8
            go_wp2_with fail
            refine ((HI.out m (by omega)).expr HF.out.st H3.out).mono ?_
            rintro en w5 ⟨v, rfl, ⟨kv, rfl, hr⟩, hx, hm⟩
            replace HF := Lib.hid (HF.out.callE hx hm hr)
            obtain ⟨A5, c5, rfl, _⟩ := hr.slice
            obtain ⟨cs, ho, hc⟩ := HF.out.accE 1 rfl
            have hsz := HF.out.size
            have HO := Lib.hid ho
            have HC := Lib.hid hc
            clear hx hm hr ho hc
            go_wp2_with (at_builtin; refine append_one w5 w.heap.size rfl _ _ 34 36 _ 4 56 rfl Tryd.underlying34 infoE rfl (by decide) (by decide) (.slice A xs.length c) xs.length cs [.int .i64 x.kind, .int .i64 x.num, .string (ba x.name), .slice A5 x.kids.length c5] rfl rfl rfl (by simp [Value.oneCell']) HO.out hsz (by omega) ?_; intro v1 w7 hown7 hg7 hat7; replace HF := Lib.hid (HF.out.appE 1 rfl HC.out (HF.out.getE 0 rfl) hown7 hg7 hat7); clear hown7 hg7 hat7)
            go_roundg m
            case measure => omega
            case rel => exact ⟨false, xs ++ [x], s3, HF.out.drop (List.sublist_cons_self _ _), rfl, HG, by simp; omega⟩
        | false =>
          have h44 : Bir.is [44] (s'.next T) = true := by simpa [moreR, hk] using hm
          have H3 : Hid ((rd T e m).expr (if 8 ≤ xs.length ∧ begins (s'.adv.next T) = true then s'.adv.stop T e 3 else s'.adv) = some (x, s3)) := Lib.hid h3
          clear h3 hm hk
          go_wp2_with fail
          refine (rtake_yes HF.out.st [44] h44).mono ?_
          rintro en w2 ⟨rfl, hx, hmm⟩
          replace HF := Lib.hid (HF.out.call hx hmm)
          clear hx hmm h44
          generalize s'.adv = s1 at HF H3
          by_cases h8 : 8 ≤ xs.length
          · have e8 : decide ((8 : Int) ≤ (xs.length : Int)) = true := by simp; omega
            have e8' : decide ((xs.length : Int) < 8) = false := by simp; omega
            cases hbg : begins (s1.next T) with
            | true =>
              rw [if_pos ⟨h8, hbg⟩] at H3
              clear h8
              go_wp2_with fail
              refine (rbegins_calls HF.out.st).mono ?_
              rw [hbg]
              rintro en w3 ⟨rfl, hb⟩
              replace HF := Lib.hid (HF.out.below hb)
              clear hb hbg
              go_wp2_with fail
              refine (rstop_calls HF.out.st 3 (by omega)).mono ?_
              rintro en w4 ⟨rfl, hx, hm⟩
              replace HF := Lib.hid (HF.out.call hx hm)
              clear hx hm
              go_wp2_with fail
              refine ((HI.out m (by omega)).expr HF.out.st H3.out).mono ?_
              rintro en w5 ⟨v, rfl, ⟨kv, rfl, hr⟩, hx, hm⟩
              replace HF := Lib.hid (HF.out.callE hx hm hr)
              obtain ⟨A5, c5, rfl, _⟩ := hr.slice
              obtain ⟨cs, ho, hc⟩ := HF.out.accE 1 rfl
              have hsz := HF.out.size
              have HO := Lib.hid ho
              have HC := Lib.hid hc
              clear hx hm hr ho hc
              go_wp2_with (at_builtin; refine append_one w5 w.heap.size rfl _ _ 34 36 _ 4 56 rfl Tryd.underlying34 infoE rfl (by decide) (by decide) (.slice A xs.length c) xs.length cs [.int .i64 x.kind, .int .i64 x.num, .string (ba x.name), .slice A5 x.kids.length c5] rfl rfl rfl (by simp [Value.oneCell']) HO.out hsz (by omega) ?_; intro v1 w7 hown7 hg7 hat7; replace HF := Lib.hid (HF.out.appE 1 rfl HC.out (HF.out.getE 0 rfl) hown7 hg7 hat7); clear hown7 hg7 hat7)
              go_roundg m
              case measure => omega
              case rel => exact ⟨false, xs ++ [x], s3, HF.out.drop (List.sublist_cons_self _ _), rfl, HG, by simp; omega⟩
            | false =>
              rw [if_neg (fun hh => by rw [hbg] at hh; cases hh.2)] at H3
              clear h8
              go_wp2_with fail
              refine (rbegins_calls HF.out.st).mono ?_
              rw [hbg]
              rintro en w3 ⟨rfl, hb⟩
              replace HF := Lib.hid (HF.out.below hb)
              clear hb hbg
              go_wp2_with fail
              refine ((HI.out m (by omega)).expr HF.out.st H3.out).mono ?_
              rintro en w5 ⟨v, rfl, ⟨kv, rfl, hr⟩, hx, hm⟩
              replace HF := Lib.hid (HF.out.callE hx hm hr)
              obtain ⟨A5, c5, rfl, _⟩ := hr.slice
              obtain ⟨cs, ho, hc⟩ := HF.out.accE 1 rfl
              have hsz := HF.out.size
              have HO := Lib.hid ho
              have HC := Lib.hid hc
              clear hx hm hr ho hc
              go_wp2_with (at_builtin; refine append_one w5 w.heap.size rfl _ _ 34 36 _ 4 56 rfl Tryd.underlying34 infoE rfl (by decide) (by decide) (.slice A xs.length c) xs.length cs [.int .i64 x.kind, .int .i64 x.num, .string (ba x.name), .slice A5 x.kids.length c5] rfl rfl rfl (by simp [Value.oneCell']) HO.out hsz (by omega) ?_; intro v1 w7 hown7 hg7 hat7; replace HF := Lib.hid (HF.out.appE 1 rfl HC.out (HF.out.getE 0 rfl) hown7 hg7 hat7); clear hown7 hg7 hat7)
              go_roundg m
              case measure => omega
              case rel => exact ⟨false, xs ++ [x], s3, HF.out.drop (List.sublist_cons_self _ _), rfl, HG, by simp; omega⟩
          · have e8 : decide ((8 : Int) ≤ (xs.length : Int)) = false := by simp; omega
            have e8' : decide ((xs.length : Int) < 8) = true := by simp; omega
            rw [if_neg (fun hh => h8 hh.1)] at H3
            clear h8
            go_wp2_with fail
            refine ((HI.out m (by omega)).expr HF.out.st H3.out).mono ?_
            rintro en w5 ⟨v, rfl, ⟨kv, rfl, hr⟩, hx, hm⟩
            replace HF := Lib.hid (HF.out.callE hx hm hr)
            obtain ⟨A5, c5, rfl, _⟩ := hr.slice
            obtain ⟨cs, ho, hc⟩ := HF.out.accE 1 rfl
            have hsz := HF.out.size
            have HO := Lib.hid ho
            have HC := Lib.hid hc
            clear hx hm hr ho hc
            go_wp2_with (at_builtin; refine append_one w5 w.heap.size rfl _ _ 34 36 _ 4 56 rfl Tryd.underlying34 infoE rfl (by decide) (by decide) (.slice A xs.length c) xs.length cs [.int .i64 x.kind, .int .i64 x.num, .string (ba x.name), .slice A5 x.kids.length c5] rfl rfl rfl (by simp [Value.oneCell']) HO.out hsz (by omega) ?_; intro v1 w7 hown7 hg7 hat7; replace HF := Lib.hid (HF.out.appE 1 rfl HC.out (HF.out.getE 0 rfl) hown7 hg7 hat7); clear hown7 hg7 hat7)
            go_roundg m
            case measure => omega
            case rel => exact ⟨false, xs ++ [x], s3, HF.out.drop (List.sublist_cons_self _ _), rfl, HG, by simp; omega⟩
end
end Go.Proofs.YtdijffojppjmfaaDoor
set_option linter.unusedVariables false
set_option linter.unusedSimpArgs false
namespace Go.Proofs.YtdijffojppjmfaaDoor
open Go.RowKit Bir Go.BW
theorem strs_ext {w w1 : World} {m : Nat} {v : Value} {row : List Str} (h : StrsAt w m v row) (hm : m ≤ w.heap.size) (hx : Ext (fun _ => False) w w1) : StrsAt w1 m v row := h.keep fun b hb => hx.block b (by omega) id
theorem strs_lit (w : World) (row : List Str) (hl : row.length ≤ 1000000) : StrsAt (w.alloc (strsObj row)) (w.heap.size + 1) (.slice (some ⟨w.heap.size, 0, none⟩) row.length row.length) row := by
  refine ⟨_, _, rfl, hl, fun _ => ⟨w.heap.size, 0, rfl, by omega, fun j s hj => ?_⟩⟩
  have := cells_of_new w (row.map fun s => .string (ba s)) 9 j (.string (ba s)) (by rw [List.getElem?_map, hj]; rfl)
  rw [Nat.zero_add]
  exact this
def levCells (n : Nat) : List Value := [.slice (some ⟨n, 0, none⟩) 1 1, .slice (some ⟨n + 1, 0, none⟩) 1 1, .slice (some ⟨n + 2, 0, none⟩) 1 1, .slice (some ⟨n + 3, 0, none⟩) 1 1, .slice (some ⟨n + 4, 0, none⟩) 1 1, .slice (some ⟨n + 5, 0, none⟩) 2 2, .slice (some ⟨n + 6, 0, none⟩) 4 4, .slice (some ⟨n + 7, 0, none⟩) 2 2, .slice (some ⟨n + 8, 0, none⟩) 2 2, .slice (some ⟨n + 9, 0, none⟩) 3 3]
def levW (w : World) : World := ((((((((((w.alloc (strsObj [[124, 124]])).alloc (strsObj [[38, 38]])).alloc (strsObj [[124]])).alloc (strsObj [[94]])).alloc (strsObj [[38]])).alloc (strsObj [[61, 61], [33, 61]])).alloc (strsObj [[60], [60, 61], [62], [62, 61]])).alloc (strsObj [[60, 60], [62, 62]])).alloc (strsObj [[43], [45]])).alloc (strsObj [[42], [47], [37]])).alloc (.cells (levCells w.heap.size).toArray 53)
theorem levW_at (w : World) (k : Nat) (hk : k < levels.length) : ∃ v, (levW w).cell? ⟨w.heap.size + 10, k, none⟩ = some v ∧ StrsAt (levW w) (w.heap.size + 11) v levels[k] := by
  have hz : (levW w).heap.size = w.heap.size + 11 := by simp [levW]
  have hc : ∀ j u, (levCells w.heap.size)[j]? = some u → (levW w).cell? ⟨w.heap.size + 10, j, none⟩ = some u := fun j u hu => by
    have := cells_of_new ((((((((((w.alloc (strsObj [[124, 124]])).alloc (strsObj [[38, 38]])).alloc (strsObj [[124]])).alloc (strsObj [[94]])).alloc (strsObj [[38]])).alloc (strsObj [[61, 61], [33, 61]])).alloc (strsObj [[60], [60, 61], [62], [62, 61]])).alloc (strsObj [[60, 60], [62, 62]])).alloc (strsObj [[43], [45]])).alloc (strsObj [[42], [47], [37]])) (levCells w.heap.size) 53 j u hu
    rw [show ((((((((((w.alloc (strsObj [[124, 124]])).alloc (strsObj [[38, 38]])).alloc (strsObj [[124]])).alloc (strsObj [[94]])).alloc (strsObj [[38]])).alloc (strsObj [[61, 61], [33, 61]])).alloc (strsObj [[60], [60, 61], [62], [62, 61]])).alloc (strsObj [[60, 60], [62, 62]])).alloc (strsObj [[43], [45]])).alloc (strsObj [[42], [47], [37]])).heap.size = w.heap.size + 10 from by simp] at this
    exact this
  have hm : ∀ {W : World} {n : Nat} {v : Value} {row : List Str}, StrsAt W n v row → n ≤ W.heap.size → n ≤ w.heap.size + 11 → Ext (fun _ => False) W (levW w) → StrsAt (levW w) (w.heap.size + 11) v row := fun h h1 h2 hx => by
    obtain ⟨A, c, e, hl, h3⟩ := strs_ext h h1 hx
    exact ⟨A, c, e, hl, fun hn => let ⟨b, off, p, q, r⟩ := h3 hn; ⟨b, off, p, by omega, r⟩⟩
  match k, hk with
  | 0, _ =>
    refine ⟨_, hc 0 _ rfl, ?_⟩
    have h := strs_lit w [[124, 124]] (by simp)
    exact hm h (by simp) (by omega) (((((((((((Ext.refl (fun _ => False) _).alloc _).alloc _).alloc _).alloc _).alloc _).alloc _).alloc _).alloc _).alloc _).alloc _)
  | 1, _ =>
    refine ⟨_, hc 1 _ rfl, ?_⟩
    have h := strs_lit (w.alloc (strsObj [[124, 124]])) [[38, 38]] (by simp)
    rw [show (w.alloc (strsObj [[124, 124]])).heap.size = w.heap.size + 1 from by simp] at h
    exact hm h (by simp) (by omega) ((((((((((Ext.refl (fun _ => False) _).alloc _).alloc _).alloc _).alloc _).alloc _).alloc _).alloc _).alloc _).alloc _)
  | 2, _ =>
    refine ⟨_, hc 2 _ rfl, ?_⟩
    have h := strs_lit ((w.alloc (strsObj [[124, 124]])).alloc (strsObj [[38, 38]])) [[124]] (by simp)
    rw [show ((w.alloc (strsObj [[124, 124]])).alloc (strsObj [[38, 38]])).heap.size = w.heap.size + 2 from by simp] at h
    exact hm h (by simp) (by omega) (((((((((Ext.refl (fun _ => False) _).alloc _).alloc _).alloc _).alloc _).alloc _).alloc _).alloc _).alloc _)
  | 3, _ =>
    refine ⟨_, hc 3 _ rfl, ?_⟩
    have h := strs_lit (((w.alloc (strsObj [[124, 124]])).alloc (strsObj [[38, 38]])).alloc (strsObj [[124]])) [[94]] (by simp)
    rw [show (((w.alloc (strsObj [[124, 124]])).alloc (strsObj [[38, 38]])).alloc (strsObj [[124]])).heap.size = w.heap.size + 3 from by simp] at h
    exact hm h (by simp) (by omega) ((((((((Ext.refl (fun _ => False) _).alloc _).alloc _).alloc _).alloc _).alloc _).alloc _).alloc _)
  | 4, _ =>
    refine ⟨_, hc 4 _ rfl, ?_⟩
    have h := strs_lit ((((w.alloc (strsObj [[124, 124]])).alloc (strsObj [[38, 38]])).alloc (strsObj [[124]])).alloc (strsObj [[94]])) [[38]] (by simp)
    rw [show ((((w.alloc (strsObj [[124, 124]])).alloc (strsObj [[38, 38]])).alloc (strsObj [[124]])).alloc (strsObj [[94]])).heap.size = w.heap.size + 4 from by simp] at h
    exact hm h (by simp) (by omega) (((((((Ext.refl (fun _ => False) _).alloc _).alloc _).alloc _).alloc _).alloc _).alloc _)
  | 5, _ =>
    refine ⟨_, hc 5 _ rfl, ?_⟩
    have h := strs_lit (((((w.alloc (strsObj [[124, 124]])).alloc (strsObj [[38, 38]])).alloc (strsObj [[124]])).alloc (strsObj [[94]])).alloc (strsObj [[38]])) [[61, 61], [33, 61]] (by simp)
    rw [show (((((w.alloc (strsObj [[124, 124]])).alloc (strsObj [[38, 38]])).alloc (strsObj [[124]])).alloc (strsObj [[94]])).alloc (strsObj [[38]])).heap.size = w.heap.size + 5 from by simp] at h
    exact hm h (by simp) (by omega) ((((((Ext.refl (fun _ => False) _).alloc _).alloc _).alloc _).alloc _).alloc _)
  | 6, _ =>
    refine ⟨_, hc 6 _ rfl, ?_⟩
    have h := strs_lit ((((((w.alloc (strsObj [[124, 124]])).alloc (strsObj [[38, 38]])).alloc (strsObj [[124]])).alloc (strsObj [[94]])).alloc (strsObj [[38]])).alloc (strsObj [[61, 61], [33, 61]])) [[60], [60, 61], [62], [62, 61]] (by simp)
    rw [show ((((((w.alloc (strsObj [[124, 124]])).alloc (strsObj [[38, 38]])).alloc (strsObj [[124]])).alloc (strsObj [[94]])).alloc (strsObj [[38]])).alloc (strsObj [[61, 61], [33, 61]])).heap.size = w.heap.size + 6 from by simp] at h
    exact hm h (by simp) (by omega) (((((Ext.refl (fun _ => False) _).alloc _).alloc _).alloc _).alloc _)
  | 7, _ =>
    refine ⟨_, hc 7 _ rfl, ?_⟩
    have h := strs_lit (((((((w.alloc (strsObj [[124, 124]])).alloc (strsObj [[38, 38]])).alloc (strsObj [[124]])).alloc (strsObj [[94]])).alloc (strsObj [[38]])).alloc (strsObj [[61, 61], [33, 61]])).alloc (strsObj [[60], [60, 61], [62], [62, 61]])) [[60, 60], [62, 62]] (by simp)
    rw [show (((((((w.alloc (strsObj [[124, 124]])).alloc (strsObj [[38, 38]])).alloc (strsObj [[124]])).alloc (strsObj [[94]])).alloc (strsObj [[38]])).alloc (strsObj [[61, 61], [33, 61]])).alloc (strsObj [[60], [60, 61], [62], [62, 61]])).heap.size = w.heap.size + 7 from by simp] at h
    exact hm h (by simp) (by omega) ((((Ext.refl (fun _ => False) _).alloc _).alloc _).alloc _)
  | 8, _ =>
    refine ⟨_, hc 8 _ rfl, ?_⟩
    have h := strs_lit ((((((((w.alloc (strsObj [[124, 124]])).alloc (strsObj [[38, 38]])).alloc (strsObj [[124]])).alloc (strsObj [[94]])).alloc (strsObj [[38]])).alloc (strsObj [[61, 61], [33, 61]])).alloc (strsObj [[60], [60, 61], [62], [62, 61]])).alloc (strsObj [[60, 60], [62, 62]])) [[43], [45]] (by simp)
    rw [show ((((((((w.alloc (strsObj [[124, 124]])).alloc (strsObj [[38, 38]])).alloc (strsObj [[124]])).alloc (strsObj [[94]])).alloc (strsObj [[38]])).alloc (strsObj [[61, 61], [33, 61]])).alloc (strsObj [[60], [60, 61], [62], [62, 61]])).alloc (strsObj [[60, 60], [62, 62]])).heap.size = w.heap.size + 8 from by simp] at h
    exact hm h (by simp) (by omega) (((Ext.refl (fun _ => False) _).alloc _).alloc _)
  | 9, _ =>
    refine ⟨_, hc 9 _ rfl, ?_⟩
    have h := strs_lit (((((((((w.alloc (strsObj [[124, 124]])).alloc (strsObj [[38, 38]])).alloc (strsObj [[124]])).alloc (strsObj [[94]])).alloc (strsObj [[38]])).alloc (strsObj [[61, 61], [33, 61]])).alloc (strsObj [[60], [60, 61], [62], [62, 61]])).alloc (strsObj [[60, 60], [62, 62]])).alloc (strsObj [[43], [45]])) [[42], [47], [37]] (by simp)
    rw [show (((((((((w.alloc (strsObj [[124, 124]])).alloc (strsObj [[38, 38]])).alloc (strsObj [[124]])).alloc (strsObj [[94]])).alloc (strsObj [[38]])).alloc (strsObj [[61, 61], [33, 61]])).alloc (strsObj [[60], [60, 61], [62], [62, 61]])).alloc (strsObj [[60, 60], [62, 62]])).alloc (strsObj [[43], [45]])).heap.size = w.heap.size + 9 from by simp] at h
    exact hm h (by simp) (by omega) ((Ext.refl (fun _ => False) _).alloc _)
  | k + 10, h => exact absurd h (by show ¬ k + 10 < 10; omega)
set_option maxRecDepth 100000 in
set_option maxHeartbeats 1000000 in
theorem rlevel_calls (s : Str) (w : World) : Calls Tryd.prog 29 #[.string (ba s)] w fun r w' => r = .returned (.int .i64 (level s)) ∧ Below w.heap.size w w' := by
  have HW := Lib.hid (levW_at w)
  have HB : Hid (Below w.heap.size w (levW w)) := Lib.hid ((((((((((((Below.refl _ w).alloc (by simp) _).alloc (by simp <;> omega) _).alloc (by simp <;> omega) _).alloc (by simp <;> omega) _).alloc (by simp <;> omega) _).alloc (by simp <;> omega) _).alloc (by simp <;> omega) _).alloc (by simp <;> omega) _).alloc (by simp <;> omega) _).alloc (by simp <;> omega) _).alloc (by simp <;> omega) _)
  go_enter Tryd.func29, Tryd.ntmps29
  go_wp2_with fail
  change Code.wp _ _ _ _ (levW w)
  generalize levW w = W at HW HB ⊢
  go_loop [4] (fun i => ∃ k : Nat, k ≤ 10 ∧ i = .int .i64 k ∧ Hid (∀ j, j < k → ∀ row, levels[j]? = some row → s ∉ row)) (fun i => 10 - (intOf i).toNat)
  case atStart => exact ⟨0, Nat.zero_le _, rfl, fun j hj => absurd hj (by omega)⟩
  case round =>
    obtain ⟨k, hk, rfl, hall⟩ := hrel
    by_cases hlt : k < 10
    · have hg : levels[k]? = some levels[k] := List.getElem?_eq_getElem hlt
      obtain ⟨v, hcell, hst⟩ := HW.out k hlt
      generalize hx : levels[k]'hlt = row at hst hg
      have HG := Lib.hid hg
      clear hg hx
      by_cases hm : s ∈ row
      · have HC : Hid (Calls Tryd.prog 60 #[v, .string (ba s)] W fun r w' => r = .returned (.bool true) ∧ W = w') := by
          have := rhas_calls row s v _ W hst
          rwa [decide_eq_true hm] at this
        have HM := Lib.hid hm
        clear hst hm
        go_wp2_with fail
        refine HC.out.mono ?_
        rintro en w1 ⟨rfl, rfl⟩
        go_wp2_with fail
        go_ret
        refine ⟨?_, HB.out⟩
        have := (levelIn_spec s levels 1 k hall.out (fun row' hr => by rw [HG.out] at hr; cases hr; exact HM.out)).2 row HG.out
        rw [show level s = 1 + k from this]
        exact congrArg (fun q : Int => Ending.returned (.int .i64 q)) (by push_cast; omega)
      · have HC : Hid (Calls Tryd.prog 60 #[v, .string (ba s)] W fun r w' => r = .returned (.bool false) ∧ W = w') := by
          have := rhas_calls row s v _ W hst
          rwa [decide_eq_false hm] at this
        have HM := Lib.hid hm
        clear hst hm
        go_wp2_with fail
        refine HC.out.mono ?_
        rintro en w1 ⟨rfl, rfl⟩
        go_wp2_with fail
        refine ⟨⟨k + 1, by omega, by go_num, fun j hj row' hr => ?_⟩, by simp [intOf]; omega⟩
        rcases Nat.lt_or_ge j k with h | h
        · exact hall.out j h row' hr
        · obtain rfl : j = k := by omega
          rw [HG.out] at hr
          cases hr
          exact HM.out
    · go_wp2_with fail
      go_ret
      refine ⟨?_, HB.out⟩
      have hn : levels[k]? = none := List.getElem?_eq_none (by have : levels.length = 10 := rfl; omega)
      have := (levelIn_spec s levels 1 k hall.out (fun row hr => by rw [hn] at hr; cases hr)).1 hn
      rw [show level s = 0 from this]
      rfl
end Go.Proofs.YtdijffojppjmfaaDoor
set_option linter.unusedVariables false
set_option linter.unusedSimpArgs false
namespace Go.Proofs.YtdijffojppjmfaaDoor
open Go.RowKit Bir Go.BW
theorem keep3 {w w1 : World} {a b c i j k : Nat} {x y z : Value} (h : w.cell? ⟨a, i, none⟩ = some x ∧ w.cell? ⟨b, j, none⟩ = some y ∧ w.cell? ⟨c, k, none⟩ = some z) (hb : Below w.heap.size w w1) : w1.cell? ⟨a, i, none⟩ = some x ∧ w1.cell? ⟨b, j, none⟩ = some y ∧ w1.cell? ⟨c, k, none⟩ = some z :=
  ⟨cell_ext h.1 (Ext.of_below hb (fun _ => False)) id, cell_ext h.2.1 (Ext.of_below hb (fun _ => False)) id, cell_ext h.2.2 (Ext.of_below hb (fun _ => False)) id⟩
section
variable {w : World} {rb tb e n : Nat} {T : List Tok} {s : RS} {p : Ex × RS}
set_option maxHeartbeats 4000000 in
set_option maxRecDepth 100000 in
theorem rbin_top (ih : RAll n) (h : RM w rb tb e T s) (v : Int) (hv : v = 11) (hp : (rd T e n).un s = some p) : Calls Tryd.prog 86 #[pp rb, .int .i64 v] w (RPost EVal w rb tb e T p) := by
  have HI := Lib.hid ih
  have HP := Lib.hid hp
  have e1 : decide ((10 : Int) < v) = true := by simp; omega
  have HF := Lib.hid ((RF.start h).make zX 36 (by decide))
  clear ih hp h hv
  go_enter Tryd.func86, Tryd.ntmps86
  go_wp2_with fail
  refine (HI.out.un HF.out.st HP.out).mono ?_
  rintro en w2 ⟨u, rfl, ⟨kv, rfl, hr⟩, hx, hm⟩
  replace HF := Lib.hid (HF.out.callE hx hm hr)
  obtain ⟨A2, c2, rfl, _⟩ := hr.slice
  clear hx hm hr
  obtain ⟨⟨r0, r1, r2, r3⟩, rf, rl, rn⟩ := HF.out.c4 1 rfl
  go_wp2_with fail
  exact rf_endE rfl HF.out 1 rfl rfl fun W h => ⟨_, rfl, ⟨_, rfl, h.outE 0 rfl⟩, h.rx, h.st⟩
set_option maxHeartbeats 8000000 in
set_option maxRecDepth 100000 in
theorem rbin_loop (hn9 : n ≤ 1000000000) (ih : ∀ m, m ≤ n → RAll m) (h : RM w rb tb e T s) (lvl : Nat) (v : Int) (hv : v = lvl) (hl1 : 1 ≤ lvl) (hl2 : lvl ≤ 10) (hp : (rd T e (n + 1)).bin lvl s = some p) : Calls Tryd.prog 86 #[pp rb, .int .i64 v] w (RPost EVal w rb tb e T p) := by
  replace hp : rBin (rd T e n) lvl s = some p := hp
  unfold rBin at hp
  rw [if_neg (by omega)] at hp
  obtain ⟨⟨x0, s1⟩, h1, hp⟩ := ob hp
  have HI := Lib.hid ih
  have H1 := Lib.hid h1
  have HP : Hid ((rd T e n).loop lvl s.at_ x0 s1 = some p) := Lib.hid hp
  have HV := Lib.hid hv
  have b0 : (1 : Int) ≤ v := by omega
  have b1 : v ≤ (10 : Int) := by omega
  have e0 : decide ((10 : Int) < v) = false := decide_eq_false (by omega)
  have HF := Lib.hid ((RF.start h).make zX 36 (by decide))
  have hrb := h.rb_lt
  obtain ⟨A0, c0, v0, ⟨q0, q1, q2, q3, q4, q5⟩, _⟩ := h.cells
  clear ih h1 hp h hv q0 q1 q3 q4 q5
  go_enter Tryd.func86, Tryd.ntmps86
  go_wp2_with fail
  clear q2
  refine ((HI.out n (Nat.le_refl _)).bin (lvl + 1) (v + 1) (by have := HV.out; omega) (by omega) (by omega) HF.out.st H1.out).mono ?_
  rintro en w1 ⟨u, rfl, ⟨kv, rfl, hr⟩, hx, hm⟩
  replace HF := Lib.hid (HF.out.callE hx hm hr)
  obtain ⟨A1, c1, rfl, _⟩ := hr.slice
  replace HF := Lib.hid (HF.out.make [.int .i64 x0.kind, .int .i64 x0.num, .string (ba x0.name), .slice A1 x0.kids.length c1] 36 (by decide))
  clear hx hm hr
  go_wp2_with fail
  generalize hxb : w1.heap.size = xb at HF ⊢
  go_loopg [] n (fun gk wr => ∃ x s' kv, RF w wr rb tb e T s' [.ex kv x.kids, .blk xb 36 [.int .i64 x.kind, .int .i64 x.num, .string (ba x.name), kv], .blk w.heap.size 36 zX] ∧ Hid ((rd T e gk).loop lvl s.at_ x s' = some p) ∧ gk ≤ n)
  case atStart => exact ⟨x0, s1, _, (HF.out.pushE (HF.out.getE 1 rfl)).drop (.cons_cons _ (.cons_cons _ (.cons _ (.cons_cons _ .slnil)))), HP, Nat.le_refl _⟩
  case round =>
    obtain ⟨x, s', kv, hrf, hg, hgk⟩ := hrel
    clear HF HP H1
    cases gk with
    | zero => exact absurd hg.out (by simp [rd])
    | succ m =>
      have hgm : rLoop T (rd T e m) lvl s.at_ x s' = some p := hg.out
      have HF := Lib.hid hrf
      obtain ⟨A, c, rfl, _⟩ := (hrf.outE 0 rfl).slice
      clear hg hrf
      unfold rLoop at hgm
      by_cases hk : kindOf (s'.next T) = 4
      · have e4 : ((kindOf (s'.next T) : Int) == 4) = true := by rw [hk]; rfl
        cases hn : s'.next T with
        | nil => rw [hn] at hk; cases hk
        | cons t l =>
          obtain ⟨hk0, hlt, ht, _⟩ := RS.next_cons hn
          rw [hn] at hgm hk e4
          have hlen := HF.out.st.len
          obtain ⟨c0, v0, ⟨q0, q1, q2, q3, q4, q5⟩, h2, t0, t1, t2⟩ := HF.out.st.tok hlt
          rw [ht] at t0 t1 t2
          have e3 : (0 : Int) ≤ (s'.at_ : Int) := by omega
          have e6 : (s'.at_ : Int) < (T.length : Int) := by omega
          have HK := Lib.hid (fun (w' : World) (h' : RM w' rb tb e T s') => rkind_calls h')
          rw [hn] at HK
          by_cases hlv : level t.text = lvl
          · have e5 : (((level t.text : Nat) : Int) == v) = true := by rw [beq_iff_eq]; have := HV.out; omega
            rw [if_pos ⟨hk, hlv⟩] at hgm
            have HG := Lib.hid hgm
            clear hgm hn hk hlv ht h2 q1 q3 q4 q5 t0 t2
            go_wp2_with fail
            replace HF := Lib.hid HF.out.drew
            have HQ := Lib.hid (show wr.drew.cell? ⟨rb, 0, none⟩ = some (.slice (some ⟨tb, 0, none⟩) T.length c0) ∧ wr.drew.cell? ⟨rb, 2, none⟩ = some (.int .i64 s'.at_) ∧ wr.drew.cell? ⟨tb, s'.at_ * 3 + 1, none⟩ = some (.string (ba t.text)) from ⟨q0, q2, t1⟩)
            go_region_held3 (fun w' => w'.cell? ⟨rb, 0, none⟩ = some (.slice (some ⟨tb, 0, none⟩) T.length c0) ∧ w'.cell? ⟨rb, 2, none⟩ = some (.int .i64 s'.at_) ∧ w'.cell? ⟨tb, s'.at_ * 3 + 1, none⟩ = some (.string (ba t.text))) (go_keep)
              (first
                | (go_at_call 110; (with_reducible refine (HK.out _ HF.out.st).mono ?_); rintro en w3 ⟨rfl, hb⟩; replace HF := Lib.hid (HF.out.below hb); replace HQ := Lib.hid (keep3 HQ.out hb); obtain ⟨k0, k2, k5⟩ := HQ.out; clear hb)
                | (go_at_call 29; (with_reducible refine (rlevel_calls t.text _).mono ?_); rintro en w3 ⟨rfl, hb⟩; replace HF := Lib.hid (HF.out.below hb); replace HQ := Lib.hid (keep3 HQ.out hb); obtain ⟨k0, k2, k5⟩ := HQ.out; clear hb))
            obtain ⟨y, hy, hgm⟩ : ∃ y, (rd T e m).bin (lvl + 1) s'.adv = some y ∧ (y.2.said s.at_).bind (fun v => (rd T e m).loop lvl s.at_ (.mk 6 0 (textOf (t :: l)) [x, y.1]) v) = some p := ob HG.out
            obtain ⟨y, s3⟩ := y
            obtain ⟨s4, h4, hgm⟩ := ob hgm
            have HY := Lib.hid hy
            have H4 := Lib.hid h4
            replace HG : Hid ((rd T e m).loop lvl s.at_ (.mk 6 0 t.text [x, y]) s4 = some p) := Lib.hid hgm
            clear hy h4 hgm
            have e2 : IntKind.i64.wrap ((s'.at_ : Int) + 1) = (s'.at_ : Int) + 1 := IntWalk.i64_in _ (by omega)
            have hf := HF.out.st.fz
            have hrl := HF.out.st.rb_lt
            go_wp2_with fail
            go_quiet (fail)
            rename_i nq
            replace HF := Lib.hid (HF.out.drewN nq)
            go_wp2_with fail
            have hadv := RSt.set2 HF.out.st (s'.at_ + 1) hlt
            have hrx := (RX.refl rb (w3.drewN nq)).set (p := ⟨rb, 2, none⟩) (.inl rfl) (.int .i64 ((s'.at_ + 1 : Nat) : Int))
            replace HF := Lib.hid (HF.out.call (s1 := s'.adv) hrx hadv)
            clear hadv hrx k0 k2 k5 HQ hf hrl
            refine ((HI.out m (by omega)).bin (lvl + 1) (v + 1) (by have := HV.out; omega) (by omega) (by omega) HF.out.st HY.out).mono ?_
            rintro en w5 ⟨u, rfl, ⟨kv, rfl, hr⟩, hx, hm⟩
            replace HF := Lib.hid (HF.out.callE hx hm hr)
            obtain ⟨A5, c5, rfl, _⟩ := hr.slice
            replace HF := Lib.hid (HF.out.make [.int .i64 y.kind, .int .i64 y.num, .string (ba y.name), .slice A5 y.kids.length c5] 36 (by decide))
            clear hx hm hr
            obtain ⟨⟨y0, y1, y2, y3⟩, _⟩ := HF.out.c4 0 rfl
            obtain ⟨⟨x0, x1, x2, x3⟩, _⟩ := HF.out.c4 3 rfl
            go_wp2_with fail
            replace HF := Lib.hid (HF.out.row2 (HF.out.getE 2 rfl) (HF.out.getE 1 rfl))
            rw [World.size_alloc] at HF
            refine (rsaid_calls HF.out.st s.at_ (.int .i64 6) (.int .i64 0) (.string (ba t.text)) _ ⟨_, _, _, rfl⟩ ⟨_, rfl⟩ ⟨_, rfl⟩ ⟨_, rfl⟩ H4.out).mono ?_
            rintro en w6 ⟨rfl, hx, hm⟩
            replace HF := Lib.hid (HF.out.call hx hm)
            clear hx hm y0 y1 y2 y3 x0 x1 x2 x3
            obtain ⟨⟨x0, x1, x2, x3⟩, xf, xl, xn⟩ := HF.out.c4 4 rfl
            replace HF := Lib.hid (HF.out.sets4 4 rfl (.int .i64 6) (.int .i64 0) (.string (ba t.text)) (.slice (some ⟨w5.heap.size + 1, 0, none⟩) 2 2))
            go_wp2_with fail
            go_roundg m
            case measure => omega
            case rel => exact ⟨.mk 6 0 t.text [x, y], s4, _, HF.out.drop (.cons_cons _ (.cons _ (.cons _ (.cons _ (.cons_cons _ (.cons_cons _ .slnil)))))), HG, by omega⟩
          · have e5 : (((level t.text : Nat) : Int) == v) = false := beq_eq_false_iff_ne.2 (fun he => hlv (by have := HV.out; omega))
            rw [if_neg (fun hh => hlv hh.2)] at hgm
            obtain rfl : (x, s') = p := by injection hgm
            clear hgm hn hk hlv ht h2 q1 q3 q4 q5 t0 t2
            go_wp2_with fail
            replace HF := Lib.hid HF.out.drew
            have HQ := Lib.hid (show wr.drew.cell? ⟨rb, 0, none⟩ = some (.slice (some ⟨tb, 0, none⟩) T.length c0) ∧ wr.drew.cell? ⟨rb, 2, none⟩ = some (.int .i64 s'.at_) ∧ wr.drew.cell? ⟨tb, s'.at_ * 3 + 1, none⟩ = some (.string (ba t.text)) from ⟨q0, q2, t1⟩)
            go_region_held3 (fun w' => w'.cell? ⟨rb, 0, none⟩ = some (.slice (some ⟨tb, 0, none⟩) T.length c0) ∧ w'.cell? ⟨rb, 2, none⟩ = some (.int .i64 s'.at_) ∧ w'.cell? ⟨tb, s'.at_ * 3 + 1, none⟩ = some (.string (ba t.text))) (go_keep)
              (first
                | (go_at_call 110; (with_reducible refine (HK.out _ HF.out.st).mono ?_); rintro en w3 ⟨rfl, hb⟩; replace HF := Lib.hid (HF.out.below hb); replace HQ := Lib.hid (keep3 HQ.out hb); obtain ⟨k0, k2, k5⟩ := HQ.out; clear hb)
                | (go_at_call 29; (with_reducible refine (rlevel_calls t.text _).mono ?_); rintro en w3 ⟨rfl, hb⟩; replace HF := Lib.hid (HF.out.below hb); replace HQ := Lib.hid (keep3 HQ.out hb); obtain ⟨k0, k2, k5⟩ := HQ.out; clear hb))
            clear k0 k2 k5 HQ
            obtain ⟨⟨x0, x1, x2, x3⟩, xf, xl, xn⟩ := HF.out.c4 1 rfl
            obtain ⟨⟨r0, r1, r2, r3⟩, rf, rl, rn⟩ := HF.out.c4 2 rfl
            go_wp2_with fail
            exact rf_endE rfl HF.out 2 rfl rfl fun W h => ⟨_, rfl, ⟨_, rfl, h.outE 0 rfl⟩, h.rx, h.st⟩
      · have e4 : ((kindOf (s'.next T) : Int) == 4) = false := beq_eq_false_iff_ne.2 (by omega)
        rw [if_neg (fun hh => hk hh.1)] at hgm
        obtain rfl : (x, s') = p := by injection hgm
        have HK : Hid (∀ n, Calls Tryd.prog 110 #[pp rb] (wr.drewN n) fun r w' => r = .returned (.int .i64 (kindOf (s'.next T))) ∧ ∃ m, w' = (wr.drewN n).drewN m) := Lib.hid fun n => rkind_quiet (HF.out.drewN n).st
        clear hgm hk
        generalize kindOf (s'.next T) = kd at HK e4
        go_wp2_with fail
        go_quiet ((go_at_call 110; exact Calls.quiet_of (HK.out _)))
        rename_i nq
        replace HF := Lib.hid (HF.out.drewN nq)
        obtain ⟨⟨x0, x1, x2, x3⟩, xf, xl, xn⟩ := HF.out.c4 1 rfl
        obtain ⟨⟨r0, r1, r2, r3⟩, rf, rl, rn⟩ := HF.out.c4 2 rfl
        go_wp2_with fail
        exact rf_endE rfl HF.out 2 rfl rfl fun W h => ⟨_, rfl, ⟨_, rfl, h.outE 0 rfl⟩, h.rx, h.st⟩
end
end Go.Proofs.YtdijffojppjmfaaDoor
