/- The parser's operands, walked: unary. -/
import Derived.Test.YtdijffojppjmfaaDoorPc
import Derived.LoopN
set_option linter.unusedVariables false
namespace Go.Proofs.YtdijffojppjmfaaDoor
open Go.RowKit Bir Go.BW

section
variable {w : World} {pb tb e n : Nat} {l : List Tok}
theorem un_minus (ih : PAll n) (h : PSt w pb tb e l) (hm : is [45] l = true) (hne : (gram (n + 1)).un l ≠ .out) : Calls Tryd.prog 113 #[pp pb] w (EPost w pb tb e ((gram (n + 1)).un l)) := by
  have hdef : (gram (n + 1)).un l = ((gram n).un l.tail).bind fun x l1 => .ok (.mk 5 0 [45] [x]) l1 := by show unF (gram n) l = _; simp only [unF, hm, if_true]
  rw [hdef] at hne ⊢
  have hpb := h.pb_lt
  have htb := h.tb_lt
  have hp0 : w.heap.size ≠ pb := by omega
  have hp1 : w.heap.size + 1 ≠ pb := by omega
  have HI := Lib.hid ih
  have HN := Lib.hid hne
  clear ih hne hdef
  go_enter Tryd.func113, Tryd.ntmps113
  go_wp2_with fail
  refine wp_loop_rounds 1 ?_
  rw [rounds_succ]
  go_wp2_with fail
  refine (take_yes ((h.alloc _).alloc _) [45] hm).mono ?_
  rintro en w1 ⟨rfl, hx1, h1⟩
  obtain ⟨hc1, hf1, hz1, hw1⟩ := estep hx1 (by simp; omega)
  go_wp2_with fail
  rcases hy : (gram n).un l.tail with _ | ⟨l2, k⟩ | ⟨y, l2⟩
  · exact absurd (by simp [hy, R.bind]) HN.out
  · have HY := Lib.hid hy
    clear hy
    refine (EPost.bad (HI.out.un h1 (by rw [HY.out]; simp)) HY.out).mono ?_
    rintro en w2 ⟨rfl, hx2⟩
    exact ⟨rfl, by rw [HY.out]; exact ⟨rfl, (((Ext.refl _ w).alloc _).alloc _).trans' (hx1.trans' hx2)⟩⟩
  · have HY := Lib.hid hy
    clear hy
    refine (EPost.got (HI.out.un h1 (by rw [HY.out]; simp)) HY.out).mono ?_
    rintro en w2 ⟨kv, rfl, hr2, hx2, h2⟩
    obtain ⟨A2, c2, rfl, _⟩ := hr2.slice
    have hX := ((Ext.refl (· = pb) (w.alloc (.cells #[.int .i64 0, .int .i64 0, .string ⟨#[]⟩, .slice none 0 0] 36))).alloc (.cells #[.string ⟨#[45]⟩, .string ⟨#[33]⟩] 9)).trans' (hx1.trans' hx2)
    obtain ⟨s0, s1, s2, s3⟩ := (cells4.new w _ _ _ _ 36).ext hX hp0
    have sf := frz_ext (frozen_new w _ 36) hX (by simp) hp0
    have sz : w.heap.size < w2.heap.size := by (have := hX.size; rw [World.size_alloc] at this; omega)
    have HX := Lib.hid hX
    have HR2 := Lib.hid hr2
    have H2 := Lib.hid h2
    have hsz := hx1.size
    simp only [World.size_alloc] at hsz
    clear hX hr2 h2 hx1 hx2 hc1 hf1 hz1 h1
    go_wp2_with fail
    rw [HY.out]
    exact epost_lit rfl rfl HX.out H2.out ((ECells.nil _ _).snoc (HR2.out.ext (Ext.refl (fun _ => False) _) (fun _ h => h.elim) (by omega))) rfl h
theorem un_not (ih : PAll n) (h : PSt w pb tb e l) (hm : is [45] l = false) (hm2 : is [33] l = true) (hne : (gram (n + 1)).un l ≠ .out) : Calls Tryd.prog 113 #[pp pb] w (EPost w pb tb e ((gram (n + 1)).un l)) := by
  have hdef : (gram (n + 1)).un l = ((gram n).un l.tail).bind fun x l1 => .ok (.mk 5 0 [33] [x]) l1 := by show unF (gram n) l = _; simp only [unF, hm, hm2, if_true, Bool.false_eq_true, if_false]
  rw [hdef] at hne ⊢
  have hpb := h.pb_lt
  have htb := h.tb_lt
  have hp0 : w.heap.size ≠ pb := by omega
  have hp1 : w.heap.size + 1 ≠ pb := by omega
  have HI := Lib.hid ih
  have HN := Lib.hid hne
  clear ih hne hdef
  go_enter Tryd.func113, Tryd.ntmps113
  go_wp2_with fail
  refine wp_loop_rounds 2 ?_
  rw [rounds_succ]
  go_wp2_with fail
  refine (take_no ((h.alloc _).alloc _) [45] hm).mono ?_
  rintro en w0 ⟨rfl, hb0⟩
  obtain ⟨hc0, hf0, hz0, hw0⟩ := bstep (pb := pb) hb0 (by simp; omega)
  have h0 := ((h.alloc (.cells #[.int .i64 0, .int .i64 0, .string ⟨#[]⟩, .slice none 0 0] 36)).alloc (.cells #[.string ⟨#[45]⟩, .string ⟨#[33]⟩] 9)).below hb0
  go_wp2_with fail
  rw [rounds_succ]
  go_wp2_with fail
  refine (take_yes h0 [33] hm2).mono ?_
  rintro en w1 ⟨rfl, hx1, h1⟩
  replace hx1 := (Ext.of_below hb0 (· = pb)).trans' hx1
  clear hc0 hf0 hz0 hw0 hb0 h0
  go_wp2_with fail
  rcases hy : (gram n).un l.tail with _ | ⟨l2, k⟩ | ⟨y, l2⟩
  · exact absurd (by simp [hy, R.bind]) HN.out
  · have HY := Lib.hid hy
    clear hy
    refine (EPost.bad (HI.out.un h1 (by rw [HY.out]; simp)) HY.out).mono ?_
    rintro en w2 ⟨rfl, hx2⟩
    exact ⟨rfl, by rw [HY.out]; exact ⟨rfl, (((Ext.refl _ w).alloc _).alloc _).trans' (hx1.trans' hx2)⟩⟩
  · have HY := Lib.hid hy
    clear hy
    refine (EPost.got (HI.out.un h1 (by rw [HY.out]; simp)) HY.out).mono ?_
    rintro en w2 ⟨kv, rfl, hr2, hx2, h2⟩
    obtain ⟨A2, c2, rfl, _⟩ := hr2.slice
    have hX := ((Ext.refl (· = pb) (w.alloc (.cells #[.int .i64 0, .int .i64 0, .string ⟨#[]⟩, .slice none 0 0] 36))).alloc (.cells #[.string ⟨#[45]⟩, .string ⟨#[33]⟩] 9)).trans' (hx1.trans' hx2)
    obtain ⟨s0, s1, s2, s3⟩ := (cells4.new w _ _ _ _ 36).ext hX hp0
    have sf := frz_ext (frozen_new w _ 36) hX (by simp) hp0
    have sz : w.heap.size < w2.heap.size := by (have := hX.size; rw [World.size_alloc] at this; omega)
    have HX := Lib.hid hX
    have HR2 := Lib.hid hr2
    have H2 := Lib.hid h2
    have hsz := hx1.size
    simp only [World.size_alloc] at hsz
    clear hX hr2 h2 hx1 hx2 h1
    go_wp2_with fail
    rw [HY.out]
    exact epost_lit rfl rfl HX.out H2.out ((ECells.nil _ _).snoc (HR2.out.ext (Ext.refl (fun _ => False) _) (fun _ h => h.elim) (by omega))) rfl h

theorem un_num (t : Tok) (h : PSt w pb tb e (t :: l)) (hm : is [45] (t :: l) = false) (hm2 : is [33] (t :: l) = false) (hk : t.kind = 3) : Calls Tryd.prog 113 #[pp pb] w (EPost w pb tb e ((gram (n + 1)).un (t :: l))) := by
  have hdef : (gram (n + 1)).un (t :: l) = (number (t :: l)).bind fun m l1 => .ok (.mk 1 m [] []) l1 := by show unF (gram n) (t :: l) = _; simp only [unF, hm, hm2, kindOf, hk, if_true, Bool.false_eq_true, if_false]
  rw [hdef]
  have hpb := h.pb_lt
  have htb := h.tb_lt
  have hp0 : w.heap.size ≠ pb := by omega
  have hp1 : w.heap.size + 1 ≠ pb := by omega
  have hok := h.wf t List.mem_cons_self
  have HK := Lib.hid hk
  have HOK := Lib.hid hok
  have HM := Lib.hid hm
  have HM2 := Lib.hid hm2
  clear hdef hok hk hm hm2
  go_enter Tryd.func113, Tryd.ntmps113
  go_wp2_with fail
  refine wp_loop_rounds 3 ?_
  rw [rounds_succ]
  go_wp2_with fail
  refine (take_no ((h.alloc _).alloc _) [45] HM.out).mono ?_
  rintro en w0 ⟨rfl, hb0⟩
  obtain ⟨hc0, hf0, hz0, hw0⟩ := bstep (pb := pb) hb0 (by simp; omega)
  have h0 := ((h.alloc (.cells #[.int .i64 0, .int .i64 0, .string ⟨#[]⟩, .slice none 0 0] 36)).alloc (.cells #[.string ⟨#[45]⟩, .string ⟨#[33]⟩] 9)).below hb0
  go_wp2_with fail
  rw [rounds_succ]
  go_wp2_with fail
  refine (take_no h0 [33] HM2.out).mono ?_
  rintro en w1 ⟨rfl, hb1⟩
  have h1 := h0.below hb1
  replace hb1 := hb0.trans (hb1.mono hb0.size)
  clear hc0 hf0 hz0 hw0 hb0 h0
  go_wp2_with fail
  rw [rounds_succ]
  go_wp2_with fail
  refine (next_cons h1).mono ?_
  rintro en w2 ⟨rfl, hb2⟩
  have h2 := (h1.below hb2).alloc (.cells #[.int .i64 t.kind, .string (ba t.text), .int .i64 t.off] 49)
  have e3 : ((t.kind : Int) == 3) = true := by rw [HK.out]; rfl
  go_wp2_with fail
  have hX := ((Ext.refl (· = pb) (w.alloc (.cells #[.int .i64 0, .int .i64 0, .string ⟨#[]⟩, .slice none 0 0] 36))).alloc (.cells #[.string ⟨#[45]⟩, .string ⟨#[33]⟩] 9)).below (hb1.trans (hb2.mono hb1.size)) |>.alloc (.cells #[.int .i64 t.kind, .string (ba t.text), .int .i64 t.off] 49)
  cases hv : value t.text with
  | none =>
    refine (number_great h2 HK.out HOK.out.short HOK.out.ne (HOK.out.num HK.out) hv).mono ?_
    rintro en w3 ⟨rfl, hb3⟩
    exact ⟨rfl, by simp only [number, HK.out, hv, if_true, R.bind]; exact ⟨rfl, ((Ext.refl _ w).alloc _).trans' (hX.below hb3)⟩⟩
  | some m =>
    refine (number_yes h2 HK.out HOK.out.short HOK.out.ne (HOK.out.num HK.out) hv).mono ?_
    rintro en w3 ⟨rfl, hx3, h3⟩
    have hX3 := hX.trans' hx3
    obtain ⟨s0, s1, s2, s3⟩ := (cells4.new w _ _ _ _ 36).ext hX3 hp0
    have sf := frz_ext (frozen_new w _ 36) hX3 (by simp) hp0
    have HX := Lib.hid hX3
    have H3 := Lib.hid h3
    have HV := Lib.hid hv
    clear hX hX3 hx3 h3 hv h2 hb2 hb1 h1 e3
    go_wp2_with fail
    rw [show (number (t :: l)).bind (fun m l1 => R.ok (Ex.mk 1 m [] []) l1) = .ok (.mk 1 m [] []) l from by simp only [number, HK.out, HV.out, if_true, R.bind]]
    exact epost_fin (x := .mk 1 m [] []) rfl rfl HX.out H3.out (.nil' _ _) h
theorem un_paren (t : Tok) (ih : PAll n) (h : PSt w pb tb e (t :: l)) (hm : is [45] (t :: l) = false) (hm2 : is [33] (t :: l) = false) (hk : t.kind ≠ 3) (hq : is [40] (t :: l) = true) (hne : (gram (n + 1)).un (t :: l) ≠ .out) : Calls Tryd.prog 113 #[pp pb] w (EPost w pb tb e ((gram (n + 1)).un (t :: l))) := by
  have hdef : (gram (n + 1)).un (t :: l) = ((gram n).expr l).bind fun x l1 => (must [41] l1).bind fun _ l2 => .ok x l2 := by show unF (gram n) (t :: l) = _; simp only [unF, hm, hm2, kindOf, hk, hq, if_true, Bool.false_eq_true, if_false, List.tail_cons]
  rw [hdef] at hne ⊢
  have HI := Lib.hid ih
  have HN := Lib.hid hne
  have HQ := Lib.hid hq
  clear ih hne hdef hq
  have HK3 : Hid (((t.kind : Int) == 3) = false) := beq_eq_false_iff_ne.2 (by omega)
  clear hk
  have hpb := h.pb_lt
  have htb := h.tb_lt
  have hp0 : w.heap.size ≠ pb := by omega
  have hp1 : w.heap.size + 1 ≠ pb := by omega
  have HM := Lib.hid hm
  have HM2 := Lib.hid hm2
  clear hm hm2
  go_enter Tryd.func113, Tryd.ntmps113
  go_wp2_with fail
  refine wp_loop_rounds 3 ?_
  rw [rounds_succ]
  go_wp2_with fail
  refine (take_no ((h.alloc _).alloc _) [45] HM.out).mono ?_
  rintro en w0 ⟨rfl, hb0⟩
  obtain ⟨hc0, hf0, hz0, hw0⟩ := bstep (pb := pb) hb0 (by simp; omega)
  have h0 := ((h.alloc (.cells #[.int .i64 0, .int .i64 0, .string ⟨#[]⟩, .slice none 0 0] 36)).alloc (.cells #[.string ⟨#[45]⟩, .string ⟨#[33]⟩] 9)).below hb0
  go_wp2_with fail
  rw [rounds_succ]
  go_wp2_with fail
  refine (take_no h0 [33] HM2.out).mono ?_
  rintro en w1 ⟨rfl, hb1⟩
  have h1 := h0.below hb1
  replace hb1 := hb0.trans (hb1.mono hb0.size)
  clear hc0 hf0 hz0 hw0 hb0 h0
  go_wp2_with fail
  rw [rounds_succ]
  go_wp2_with fail
  refine (next_cons h1).mono ?_
  rintro en w2 ⟨rfl, hb2⟩
  have h2 := (h1.below hb2).alloc (.cells #[.int .i64 t.kind, .string (ba t.text), .int .i64 t.off] 49)
  have e3 : ((t.kind : Int) == 3) = false := HK3.out
  have hX := ((Ext.refl (· = pb) (w.alloc (.cells #[.int .i64 0, .int .i64 0, .string ⟨#[]⟩, .slice none 0 0] 36))).alloc (.cells #[.string ⟨#[45]⟩, .string ⟨#[33]⟩] 9)).below (hb1.trans (hb2.mono hb1.size)) |>.alloc (.cells #[.int .i64 t.kind, .string (ba t.text), .int .i64 t.off] 49)
  clear hb1 hb2 h1
  go_wp2_with fail
  refine (take_yes h2 [40] HQ.out).mono ?_
  rintro en w3 ⟨rfl, hx3, h3⟩
  replace hX := hX.trans' hx3
  clear hx3 h2
  go_wp2_with fail
  rcases hy : (gram n).expr l with _ | ⟨l2, k⟩ | ⟨y, l2⟩
  · exact absurd (by simp [hy, R.bind]) HN.out
  · have HY := Lib.hid hy
    clear hy
    refine (EPost.bad (HI.out.expr h3 (by rw [List.tail_cons, HY.out]; simp)) HY.out).mono ?_
    rintro en w4 ⟨rfl, hx4⟩
    exact ⟨rfl, by rw [HY.out]; exact ⟨rfl, ((Ext.refl _ w).alloc _).trans' (hX.trans' hx4)⟩⟩
  · have HY := Lib.hid hy
    clear hy
    refine (EPost.got (HI.out.expr h3 (by rw [List.tail_cons, HY.out]; simp)) HY.out).mono ?_
    rintro en w4 ⟨kv, rfl, hr4, hx4, h4⟩
    obtain ⟨hc4, hf4, hz4, hw4⟩ := estep hx4 (by have := hX.size; simp at this; omega)
    obtain ⟨A4, c4, rfl, _⟩ := hr4.slice
    have HR4 := Lib.hid hr4
    have H4 := Lib.hid h4
    have HX4 := Lib.hid hx4
    have HX := Lib.hid hX
    clear hr4 h4 hx4 hX h3
    go_wp2_with fail
    cases hc : is [41] l2 with
    | false =>
      refine (must_no (H4.out.alloc _) [41] hc).mono ?_
      rintro en w5 ⟨rfl, hb5⟩
      exact ⟨rfl, by rw [HY.out, show (R.ok y l2).bind (fun x l1 => (must [41] l1).bind fun _ l2 => R.ok x l2) = .err l2 4 from by simp [R.bind, must, hc]]; exact ⟨rfl, ((Ext.refl _ w).alloc _).trans' (((HX.out.trans' HX4.out).alloc _).below hb5)⟩⟩
    | true =>
      refine (must_yes (H4.out.alloc _) [41] hc).mono ?_
      rintro en w5 ⟨rfl, hx5, h5⟩
      obtain ⟨c40, c41, c42, c43⟩ := (cells4.new w4 (.int .i64 y.kind) (.int .i64 y.num) (.string (ba y.name)) (.slice A4 y.kids.length c4) 36).ext hx5 hw4
      have hXX := (((HX.out.trans' HX4.out).alloc (.cells #[.int .i64 y.kind, .int .i64 y.num, .string (ba y.name), .slice A4 y.kids.length c4] 36)).trans' hx5)
      have HXX := Lib.hid hXX
      have H5 := Lib.hid h5
      have HX5 := Lib.hid hx5
      have HC := Lib.hid hc
      obtain ⟨s0, s1, s2, s3⟩ := (cells4.new w _ _ _ _ 36).ext hXX hp0
      have sf := frz_ext (frozen_new w _ 36) hXX (by simp) hp0
      have ssz : w.heap.size < w3.heap.size := by (have := HX.out.size; simp at this; omega)
      clear hXX h5 hx5 hc
      go_wp2_with fail
      rw [HY.out, show (R.ok y l2).bind (fun x l1 => (must [41] l1).bind fun _ l2 => R.ok x l2) = .ok y l2.tail from by simp [R.bind, must, HC.out]]
      exact epost_fin rfl rfl HXX.out H5.out (HR4.out.ext (((Ext.refl _ w4).alloc _).trans' HX5.out) (fun b hb => by omega) (by omega)) h
theorem un_noname (t : Tok) (h : PSt w pb tb e (t :: l)) (hm : is [45] (t :: l) = false) (hm2 : is [33] (t :: l) = false) (hk : t.kind ≠ 3) (hq : is [40] (t :: l) = false) (hk1 : t.kind ≠ 1) : Calls Tryd.prog 113 #[pp pb] w (EPost w pb tb e ((gram (n + 1)).un (t :: l))) := by
  have hdef : (gram (n + 1)).un (t :: l) = .err (t :: l) 4 := by show unF (gram n) (t :: l) = _; simp only [unF, hm, hm2, kindOf, hk, hq, Bool.false_eq_true, if_false, Bir.name, hk1, R.bind]
  rw [hdef]
  have HQ := Lib.hid hq
  have HK1 := Lib.hid hk1
  clear hdef hq hk1
  have HK3 : Hid (((t.kind : Int) == 3) = false) := beq_eq_false_iff_ne.2 (by omega)
  clear hk
  have hpb := h.pb_lt
  have htb := h.tb_lt
  have hp0 : w.heap.size ≠ pb := by omega
  have hp1 : w.heap.size + 1 ≠ pb := by omega
  have HM := Lib.hid hm
  have HM2 := Lib.hid hm2
  clear hm hm2
  go_enter Tryd.func113, Tryd.ntmps113
  go_wp2_with fail
  refine wp_loop_rounds 3 ?_
  rw [rounds_succ]
  go_wp2_with fail
  refine (take_no ((h.alloc _).alloc _) [45] HM.out).mono ?_
  rintro en w0 ⟨rfl, hb0⟩
  obtain ⟨hc0, hf0, hz0, hw0⟩ := bstep (pb := pb) hb0 (by simp; omega)
  have h0 := ((h.alloc (.cells #[.int .i64 0, .int .i64 0, .string ⟨#[]⟩, .slice none 0 0] 36)).alloc (.cells #[.string ⟨#[45]⟩, .string ⟨#[33]⟩] 9)).below hb0
  go_wp2_with fail
  rw [rounds_succ]
  go_wp2_with fail
  refine (take_no h0 [33] HM2.out).mono ?_
  rintro en w1 ⟨rfl, hb1⟩
  have h1 := h0.below hb1
  replace hb1 := hb0.trans (hb1.mono hb0.size)
  clear hc0 hf0 hz0 hw0 hb0 h0
  go_wp2_with fail
  rw [rounds_succ]
  go_wp2_with fail
  refine (next_cons h1).mono ?_
  rintro en w2 ⟨rfl, hb2⟩
  have h2 := (h1.below hb2).alloc (.cells #[.int .i64 t.kind, .string (ba t.text), .int .i64 t.off] 49)
  have e3 : ((t.kind : Int) == 3) = false := HK3.out
  have hX := ((Ext.refl (· = pb) (w.alloc (.cells #[.int .i64 0, .int .i64 0, .string ⟨#[]⟩, .slice none 0 0] 36))).alloc (.cells #[.string ⟨#[45]⟩, .string ⟨#[33]⟩] 9)).below (hb1.trans (hb2.mono hb1.size)) |>.alloc (.cells #[.int .i64 t.kind, .string (ba t.text), .int .i64 t.off] 49)
  clear hb1 hb2 h1
  go_wp2_with fail
  refine (take_no h2 [40] HQ.out).mono ?_
  rintro en w3 ⟨rfl, hb3⟩
  have h3 := h2.below hb3
  replace hX := hX.below hb3
  clear hb3 h2
  go_wp2_with fail
  refine (name_form h3 HK1.out).mono ?_
  rintro en w4 ⟨rfl, hb4⟩
  exact ⟨rfl, rfl, ((Ext.refl _ w).alloc _).trans' (hX.below hb4)⟩
theorem un_longname (t : Tok) (h : PSt w pb tb e (t :: l)) (hm : is [45] (t :: l) = false) (hm2 : is [33] (t :: l) = false) (hk : t.kind = 1) (hq : is [40] (t :: l) = false) (hlen : 40 < t.text.length) : Calls Tryd.prog 113 #[pp pb] w (EPost w pb tb e ((gram (n + 1)).un (t :: l))) := by
  have hdef : (gram (n + 1)).un (t :: l) = .err (t :: l) 3 := by show unF (gram n) (t :: l) = _; simp only [unF, hm, hm2, kindOf, hk, hq, Bool.false_eq_true, if_false, Bir.name, if_true, hlen, R.bind, show ¬ (1 = 3) from by decide]
  rw [hdef]
  have HQ := Lib.hid hq
  have HK1 := Lib.hid hk
  have HL := Lib.hid hlen
  clear hdef hq hlen
  have HK3 : Hid (((t.kind : Int) == 3) = false) := beq_eq_false_iff_ne.2 (by omega)
  clear hk
  have hpb := h.pb_lt
  have htb := h.tb_lt
  have hp0 : w.heap.size ≠ pb := by omega
  have hp1 : w.heap.size + 1 ≠ pb := by omega
  have HM := Lib.hid hm
  have HM2 := Lib.hid hm2
  clear hm hm2
  go_enter Tryd.func113, Tryd.ntmps113
  go_wp2_with fail
  refine wp_loop_rounds 3 ?_
  rw [rounds_succ]
  go_wp2_with fail
  refine (take_no ((h.alloc _).alloc _) [45] HM.out).mono ?_
  rintro en w0 ⟨rfl, hb0⟩
  obtain ⟨hc0, hf0, hz0, hw0⟩ := bstep (pb := pb) hb0 (by simp; omega)
  have h0 := ((h.alloc (.cells #[.int .i64 0, .int .i64 0, .string ⟨#[]⟩, .slice none 0 0] 36)).alloc (.cells #[.string ⟨#[45]⟩, .string ⟨#[33]⟩] 9)).below hb0
  go_wp2_with fail
  rw [rounds_succ]
  go_wp2_with fail
  refine (take_no h0 [33] HM2.out).mono ?_
  rintro en w1 ⟨rfl, hb1⟩
  have h1 := h0.below hb1
  replace hb1 := hb0.trans (hb1.mono hb0.size)
  clear hc0 hf0 hz0 hw0 hb0 h0
  go_wp2_with fail
  rw [rounds_succ]
  go_wp2_with fail
  refine (next_cons h1).mono ?_
  rintro en w2 ⟨rfl, hb2⟩
  have h2 := (h1.below hb2).alloc (.cells #[.int .i64 t.kind, .string (ba t.text), .int .i64 t.off] 49)
  have e3 : ((t.kind : Int) == 3) = false := HK3.out
  have hX := ((Ext.refl (· = pb) (w.alloc (.cells #[.int .i64 0, .int .i64 0, .string ⟨#[]⟩, .slice none 0 0] 36))).alloc (.cells #[.string ⟨#[45]⟩, .string ⟨#[33]⟩] 9)).below (hb1.trans (hb2.mono hb1.size)) |>.alloc (.cells #[.int .i64 t.kind, .string (ba t.text), .int .i64 t.off] 49)
  clear hb1 hb2 h1
  go_wp2_with fail
  refine (take_no h2 [40] HQ.out).mono ?_
  rintro en w3 ⟨rfl, hb3⟩
  have h3 := h2.below hb3
  replace hX := hX.below hb3
  clear hb3 h2
  go_wp2_with fail
  refine (name_long h3 HK1.out HL.out).mono ?_
  rintro en w4 ⟨rfl, hb4⟩
  exact ⟨rfl, rfl, ((Ext.refl _ w).alloc _).trans' (hX.below hb4)⟩
theorem un_nil (h : PSt w pb tb e []) : Calls Tryd.prog 113 #[pp pb] w (EPost w pb tb e ((gram (n + 1)).un [])) := by
  have hm : is [45] [] = false := rfl
  have hm2 : is [33] [] = false := rfl
  have hpb := h.pb_lt
  have htb := h.tb_lt
  have hp0 : w.heap.size ≠ pb := by omega
  have hp1 : w.heap.size + 1 ≠ pb := by omega
  have HM := Lib.hid hm
  have HM2 := Lib.hid hm2
  clear hm hm2
  go_enter Tryd.func113, Tryd.ntmps113
  go_wp2_with fail
  refine wp_loop_rounds 3 ?_
  rw [rounds_succ]
  go_wp2_with fail
  refine (take_no ((h.alloc _).alloc _) [45] HM.out).mono ?_
  rintro en w0 ⟨rfl, hb0⟩
  obtain ⟨hc0, hf0, hz0, hw0⟩ := bstep (pb := pb) hb0 (by simp; omega)
  have h0 := ((h.alloc (.cells #[.int .i64 0, .int .i64 0, .string ⟨#[]⟩, .slice none 0 0] 36)).alloc (.cells #[.string ⟨#[45]⟩, .string ⟨#[33]⟩] 9)).below hb0
  go_wp2_with fail
  rw [rounds_succ]
  go_wp2_with fail
  refine (take_no h0 [33] HM2.out).mono ?_
  rintro en w1 ⟨rfl, hb1⟩
  have h1 := h0.below hb1
  replace hb1 := hb0.trans (hb1.mono hb0.size)
  clear hc0 hf0 hz0 hw0 hb0 h0
  go_wp2_with fail
  rw [rounds_succ]
  go_wp2_with fail
  refine (next_nil h1).mono ?_
  rintro en w2 ⟨rfl, hb2⟩
  have h2 := (h1.below hb2).alloc (.cells #[.int .i64 0, .string ⟨#[]⟩, .int .i64 e] 49)
  have hX := ((Ext.refl (· = pb) (w.alloc (.cells #[.int .i64 0, .int .i64 0, .string ⟨#[]⟩, .slice none 0 0] 36))).alloc (.cells #[.string ⟨#[45]⟩, .string ⟨#[33]⟩] 9)).below (hb1.trans (hb2.mono hb1.size)) |>.alloc (.cells #[.int .i64 0, .string ⟨#[]⟩, .int .i64 e] 49)
  clear hb1 hb2 h1
  go_wp2_with fail
  refine (take_no h2 [40] rfl).mono ?_
  rintro en w3 ⟨rfl, hb3⟩
  have h3 := h2.below hb3
  replace hX := hX.below hb3
  clear hb3 h2
  go_wp2_with fail
  refine (name_form h3 (by decide)).mono ?_
  rintro en w4 ⟨rfl, hb4⟩
  exact ⟨rfl, rfl, ((Ext.refl _ w).alloc _).trans' (hX.below hb4)⟩
theorem un_name {t : Tok} (h : PSt w pb tb e (t :: l)) (hm : is [45] (t :: l) = false) (hm2 : is [33] (t :: l) = false) (hk : t.kind = 1) (hq : is [40] (t :: l) = false) (hlen : t.text.length ≤ 40) (hb1 : is [91] l = false) (hb2 : is [40] l = false) : Calls Tryd.prog 113 #[pp pb] w (EPost w pb tb e ((gram (n + 1)).un (t :: l))) := by
  have hdef : (gram (n + 1)).un (t :: l) = .ok (.mk 2 0 t.text []) l := by show unF (gram n) (t :: l) = _; simp only [unF, hm, hm2, kindOf, hk, hq, Bool.false_eq_true, if_false, Bir.name, if_true, show ¬ (40 < t.text.length) from by omega, R.bind, show ¬ (1 = 3) from by decide, hb1, hb2]
  rw [hdef]
  have HB1 := Lib.hid hb1
  have HB2 := Lib.hid hb2
  clear hb1 hb2
  have HQ := Lib.hid hq
  have HK1 := Lib.hid hk
  have HL := Lib.hid hlen
  have HK3 : Hid (((t.kind : Int) == 3) = false) := beq_eq_false_iff_ne.2 (by omega)
  clear hk hlen hq hdef
  have hpb := h.pb_lt
  have htb := h.tb_lt
  have hp0 : w.heap.size ≠ pb := by omega
  have hp1 : w.heap.size + 1 ≠ pb := by omega
  have HM := Lib.hid hm
  have HM2 := Lib.hid hm2
  clear hm hm2
  go_enter Tryd.func113, Tryd.ntmps113
  go_wp2_with fail
  refine wp_loop_rounds 3 ?_
  rw [rounds_succ]
  go_wp2_with fail
  refine (take_no ((h.alloc _).alloc _) [45] HM.out).mono ?_
  rintro en w0 ⟨rfl, hb0⟩
  obtain ⟨hc0, hf0, hz0, hw0⟩ := bstep (pb := pb) hb0 (by simp; omega)
  have h0 := ((h.alloc (.cells #[.int .i64 0, .int .i64 0, .string ⟨#[]⟩, .slice none 0 0] 36)).alloc (.cells #[.string ⟨#[45]⟩, .string ⟨#[33]⟩] 9)).below hb0
  go_wp2_with fail
  rw [rounds_succ]
  go_wp2_with fail
  refine (take_no h0 [33] HM2.out).mono ?_
  rintro en w1 ⟨rfl, hb1⟩
  have h1 := h0.below hb1
  replace hb1 := hb0.trans (hb1.mono hb0.size)
  clear hc0 hf0 hz0 hw0 hb0 h0
  go_wp2_with fail
  rw [rounds_succ]
  go_wp2_with fail
  refine (next_cons h1).mono ?_
  rintro en w2 ⟨rfl, hb2⟩
  have h2 := (h1.below hb2).alloc (.cells #[.int .i64 t.kind, .string (ba t.text), .int .i64 t.off] 49)
  have e3 : ((t.kind : Int) == 3) = false := HK3.out
  have hX := ((Ext.refl (· = pb) (w.alloc (.cells #[.int .i64 0, .int .i64 0, .string ⟨#[]⟩, .slice none 0 0] 36))).alloc (.cells #[.string ⟨#[45]⟩, .string ⟨#[33]⟩] 9)).below (hb1.trans (hb2.mono hb1.size)) |>.alloc (.cells #[.int .i64 t.kind, .string (ba t.text), .int .i64 t.off] 49)
  clear hb1 hb2 h1
  go_wp2_with fail
  refine (take_no h2 [40] HQ.out).mono ?_
  rintro en w3 ⟨rfl, hb3⟩
  have h3 := h2.below hb3
  replace hX := hX.below hb3
  clear hb3 h2
  go_wp2_with fail
  refine (name_yes h3 HK1.out HL.out).mono ?_
  rintro en w4 ⟨rfl, hx4, h4⟩
  replace hX := hX.trans' hx4
  have ssz : w.heap.size < w4.heap.size := by (have := hX.size; simp at this; omega)
  clear hx4 h3
  go_wp2_with fail
  refine (take_no h4 [91] HB1.out).mono ?_
  rintro en w5 ⟨rfl, hb5⟩
  have h5 := h4.below hb5
  replace hX := hX.below hb5
  clear hb5 h4
  go_wp2_with fail
  refine (is_calls h5 [40]).mono ?_
  rw [HB2.out]
  rintro en w6 ⟨rfl, hb6⟩
  have h6 := h5.below hb6
  replace hX := hX.below hb6
  clear hb6 h5
  obtain ⟨s0, s1, s2, s3⟩ := (cells4.new w _ _ _ _ 36).ext hX hp0
  have sf := frz_ext (frozen_new w _ 36) hX (by simp) hp0
  have HX := Lib.hid hX
  have H6 := Lib.hid h6
  clear hX h6
  go_wp2_with fail
  exact epost_fin (x := .mk 2 0 t.text []) rfl rfl HX.out H6.out (.nil' _ _) h
theorem un_call {t : Tok} (ih : PAll n) (h : PSt w pb tb e (t :: l)) (hm : is [45] (t :: l) = false) (hm2 : is [33] (t :: l) = false) (hk : t.kind = 1) (hq : is [40] (t :: l) = false) (hlen : t.text.length ≤ 40) (hb1 : is [91] l = false) (hb2 : is [40] l = true) (hne : (gram (n + 1)).un (t :: l) ≠ .out) : Calls Tryd.prog 113 #[pp pb] w (EPost w pb tb e ((gram (n + 1)).un (t :: l))) := by
  have hdef : (gram (n + 1)).un (t :: l) = ((gram n).args [] l.tail).bind fun xs l2 => .ok (.mk 4 0 t.text xs) l2 := by show unF (gram n) (t :: l) = _; simp only [unF, hm, hm2, kindOf, hk, hq, Bool.false_eq_true, if_false, Bir.name, if_true, show ¬ (40 < t.text.length) from by omega, R.bind, show ¬ (1 = 3) from by decide, hb1, hb2]
  rw [hdef] at hne ⊢
  have HI := Lib.hid ih
  have HN := Lib.hid hne
  have HB1 := Lib.hid hb1
  have HB2 := Lib.hid hb2
  clear hb1 hb2 ih hne
  have HQ := Lib.hid hq
  have HK1 := Lib.hid hk
  have HL := Lib.hid hlen
  have HK3 : Hid (((t.kind : Int) == 3) = false) := beq_eq_false_iff_ne.2 (by omega)
  clear hk hlen hq hdef
  have hpb := h.pb_lt
  have htb := h.tb_lt
  have hp0 : w.heap.size ≠ pb := by omega
  have hp1 : w.heap.size + 1 ≠ pb := by omega
  have HM := Lib.hid hm
  have HM2 := Lib.hid hm2
  clear hm hm2
  go_enter Tryd.func113, Tryd.ntmps113
  go_wp2_with fail
  refine wp_loop_rounds 3 ?_
  rw [rounds_succ]
  go_wp2_with fail
  refine (take_no ((h.alloc _).alloc _) [45] HM.out).mono ?_
  rintro en w0 ⟨rfl, hb0⟩
  obtain ⟨hc0, hf0, hz0, hw0⟩ := bstep (pb := pb) hb0 (by simp; omega)
  have h0 := ((h.alloc (.cells #[.int .i64 0, .int .i64 0, .string ⟨#[]⟩, .slice none 0 0] 36)).alloc (.cells #[.string ⟨#[45]⟩, .string ⟨#[33]⟩] 9)).below hb0
  go_wp2_with fail
  rw [rounds_succ]
  go_wp2_with fail
  refine (take_no h0 [33] HM2.out).mono ?_
  rintro en w1 ⟨rfl, hb1⟩
  have h1 := h0.below hb1
  replace hb1 := hb0.trans (hb1.mono hb0.size)
  clear hc0 hf0 hz0 hw0 hb0 h0
  go_wp2_with fail
  rw [rounds_succ]
  go_wp2_with fail
  refine (next_cons h1).mono ?_
  rintro en w2 ⟨rfl, hb2⟩
  have h2 := (h1.below hb2).alloc (.cells #[.int .i64 t.kind, .string (ba t.text), .int .i64 t.off] 49)
  have e3 : ((t.kind : Int) == 3) = false := HK3.out
  have hX := ((Ext.refl (· = pb) (w.alloc (.cells #[.int .i64 0, .int .i64 0, .string ⟨#[]⟩, .slice none 0 0] 36))).alloc (.cells #[.string ⟨#[45]⟩, .string ⟨#[33]⟩] 9)).below (hb1.trans (hb2.mono hb1.size)) |>.alloc (.cells #[.int .i64 t.kind, .string (ba t.text), .int .i64 t.off] 49)
  clear hb1 hb2 h1
  go_wp2_with fail
  refine (take_no h2 [40] HQ.out).mono ?_
  rintro en w3 ⟨rfl, hb3⟩
  have h3 := h2.below hb3
  replace hX := hX.below hb3
  clear hb3 h2
  go_wp2_with fail
  refine (name_yes h3 HK1.out HL.out).mono ?_
  rintro en w4 ⟨rfl, hx4, h4⟩
  replace hX := hX.trans' hx4
  have ssz : w.heap.size < w4.heap.size := by (have := hX.size; simp at this; omega)
  clear hx4 h3
  go_wp2_with fail
  refine (take_no h4 [91] HB1.out).mono ?_
  rintro en w5 ⟨rfl, hb5⟩
  have h5 := h4.below hb5
  replace hX := hX.below hb5
  clear hb5 h4
  go_wp2_with fail
  refine (is_calls h5 [40]).mono ?_
  rw [HB2.out]
  rintro en w6 ⟨rfl, hb6⟩
  have h6 := h5.below hb6
  replace hX := hX.below hb6
  clear hb6 h5
  go_wp2_with fail
  rcases hy : (gram n).args [] l.tail with _ | ⟨l2, k⟩ | ⟨y, l2⟩
  · exact absurd (by simp [hy, R.bind]) HN.out
  · have HY := Lib.hid hy
    clear hy
    refine (APost.bad (HI.out.args h6 HB2.out (by rw [HY.out]; simp)) HY.out).mono ?_
    rintro en w7 ⟨rfl, hx7⟩
    exact ⟨rfl, by rw [HY.out]; exact ⟨rfl, ((Ext.refl _ w).alloc _).trans' (hX.trans' hx7)⟩⟩
  · have HY := Lib.hid hy
    clear hy
    refine (APost.got (HI.out.args h6 HB2.out (by rw [HY.out]; simp)) HY.out).mono ?_
    rintro en w7 ⟨kv, rfl, hr7, hx7, h7⟩
    have ssz6 : w.heap.size + 1 ≤ w6.heap.size := by (have := hX.size; simp at this; omega)
    replace hX := hX.trans' hx7
    obtain ⟨A7, c7, rfl, _⟩ := hr7.slice
    obtain ⟨s0, s1, s2, s3⟩ := (cells4.new w _ _ _ _ 36).ext hX hp0
    have sf := frz_ext (frozen_new w _ 36) hX (by simp) hp0
    have HX := Lib.hid hX
    have H7 := Lib.hid h7
    have HR7 := Lib.hid hr7
    clear hX h7 hr7 hx7 h6
    go_wp2_with fail
    rw [HY.out]
    exact epost_fin (x := .mk 4 0 t.text y) rfl rfl HX.out H7.out (HR7.out.ext (Ext.refl (fun _ => False) _) (fun _ h => h.elim) ssz6) h
theorem un_index {t : Tok} (ih : PAll n) (h : PSt w pb tb e (t :: l)) (hm : is [45] (t :: l) = false) (hm2 : is [33] (t :: l) = false) (hk : t.kind = 1) (hq : is [40] (t :: l) = false) (hlen : t.text.length ≤ 40) (hb1 : is [91] l = true) (hne : (gram (n + 1)).un (t :: l) ≠ .out) : Calls Tryd.prog 113 #[pp pb] w (EPost w pb tb e ((gram (n + 1)).un (t :: l))) := by
  have hdef : (gram (n + 1)).un (t :: l) = ((gram n).expr l.tail).bind fun x l2 => (must [93] l2).bind fun _ l3 => .ok (.mk 3 0 t.text [x]) l3 := by show unF (gram n) (t :: l) = _; simp only [unF, hm, hm2, kindOf, hk, hq, Bool.false_eq_true, if_false, Bir.name, if_true, show ¬ (40 < t.text.length) from by omega, R.bind, show ¬ (1 = 3) from by decide, hb1]
  rw [hdef] at hne ⊢
  have HI := Lib.hid ih
  have HN := Lib.hid hne
  have HB1 := Lib.hid hb1
  clear hb1 ih hne
  have HQ := Lib.hid hq
  have HK1 := Lib.hid hk
  have HL := Lib.hid hlen
  have HK3 : Hid (((t.kind : Int) == 3) = false) := beq_eq_false_iff_ne.2 (by omega)
  clear hk hlen hq hdef
  have hpb := h.pb_lt
  have htb := h.tb_lt
  have hp0 : w.heap.size ≠ pb := by omega
  have hp1 : w.heap.size + 1 ≠ pb := by omega
  have HM := Lib.hid hm
  have HM2 := Lib.hid hm2
  clear hm hm2
  go_enter Tryd.func113, Tryd.ntmps113
  go_wp2_with fail
  refine wp_loop_rounds 3 ?_
  rw [rounds_succ]
  go_wp2_with fail
  refine (take_no ((h.alloc _).alloc _) [45] HM.out).mono ?_
  rintro en w0 ⟨rfl, hb0⟩
  obtain ⟨hc0, hf0, hz0, hw0⟩ := bstep (pb := pb) hb0 (by simp; omega)
  have h0 := ((h.alloc (.cells #[.int .i64 0, .int .i64 0, .string ⟨#[]⟩, .slice none 0 0] 36)).alloc (.cells #[.string ⟨#[45]⟩, .string ⟨#[33]⟩] 9)).below hb0
  go_wp2_with fail
  rw [rounds_succ]
  go_wp2_with fail
  refine (take_no h0 [33] HM2.out).mono ?_
  rintro en w1 ⟨rfl, hb1⟩
  have h1 := h0.below hb1
  replace hb1 := hb0.trans (hb1.mono hb0.size)
  clear hc0 hf0 hz0 hw0 hb0 h0
  go_wp2_with fail
  rw [rounds_succ]
  go_wp2_with fail
  refine (next_cons h1).mono ?_
  rintro en w2 ⟨rfl, hb2⟩
  have h2 := (h1.below hb2).alloc (.cells #[.int .i64 t.kind, .string (ba t.text), .int .i64 t.off] 49)
  have e3 : ((t.kind : Int) == 3) = false := HK3.out
  have hX := ((Ext.refl (· = pb) (w.alloc (.cells #[.int .i64 0, .int .i64 0, .string ⟨#[]⟩, .slice none 0 0] 36))).alloc (.cells #[.string ⟨#[45]⟩, .string ⟨#[33]⟩] 9)).below (hb1.trans (hb2.mono hb1.size)) |>.alloc (.cells #[.int .i64 t.kind, .string (ba t.text), .int .i64 t.off] 49)
  clear hb1 hb2 h1
  go_wp2_with fail
  refine (take_no h2 [40] HQ.out).mono ?_
  rintro en w3 ⟨rfl, hb3⟩
  have h3 := h2.below hb3
  replace hX := hX.below hb3
  clear hb3 h2
  go_wp2_with fail
  refine (name_yes h3 HK1.out HL.out).mono ?_
  rintro en w4 ⟨rfl, hx4, h4⟩
  replace hX := hX.trans' hx4
  have ssz : w.heap.size < w4.heap.size := by (have := hX.size; simp at this; omega)
  clear hx4 h3
  go_wp2_with fail
  refine (take_yes h4 [91] HB1.out).mono ?_
  rintro en w5 ⟨rfl, hx5, h5⟩
  replace hX := hX.trans' hx5
  clear hx5 h4
  go_wp2_with fail
  rcases hy : (gram n).expr l.tail with _ | ⟨l2, k⟩ | ⟨y, l2⟩
  · exact absurd (by simp [hy, R.bind]) HN.out
  · have HY := Lib.hid hy
    clear hy
    refine (EPost.bad (HI.out.expr h5 (by rw [HY.out]; simp)) HY.out).mono ?_
    rintro en w7 ⟨rfl, hx7⟩
    exact ⟨rfl, by rw [HY.out]; exact ⟨rfl, ((Ext.refl _ w).alloc _).trans' (hX.trans' hx7)⟩⟩
  · have HY := Lib.hid hy
    clear hy
    refine (EPost.got (HI.out.expr h5 (by rw [HY.out]; simp)) HY.out).mono ?_
    rintro en w7 ⟨kv, rfl, hr7, hx7, h7⟩
    have ssz6 : w.heap.size + 1 ≤ w5.heap.size := by (have := hX.size; simp at this; omega)
    obtain ⟨hc7, hf7, hz7, hw7⟩ := estep hx7 (by omega)
    replace hX := hX.trans' hx7
    obtain ⟨A7, c7, rfl, _⟩ := hr7.slice
    have H7 := Lib.hid h7
    have HR7 := Lib.hid hr7
    have HX7 := Lib.hid hX
    clear h7 hr7 hx7 h5 hX
    go_wp2_with fail
    have hrow : ERow (w7.alloc (.cells #[.int .i64 y.kind, .int .i64 y.num, .string (ba y.name), .slice A7 y.kids.length c7] 36)) (From (w.heap.size + 1)) (.slice (some ⟨w7.heap.size, 0, none⟩) 1 1) [y] :=
      erow1 (k1 := .slice A7 y.kids.length c7) (by omega) (by simp) (HR7.out.ext ((Ext.refl (fun _ => False) _).alloc _) (fun _ h => h.elim) ssz6) (fun i u hu => cells_of_new w7 _ _ i u hu)
    have hXa := ((HX7.out.alloc (.cells #[.int .i64 y.kind, .int .i64 y.num, .string (ba y.name), .slice A7 y.kids.length c7] 36)).alloc (.cells #[.int .i64 3, .int .i64 0, .string (ba t.text), .slice (some ⟨w7.heap.size, 0, none⟩) 1 1] 36))
    have HROW := Lib.hid hrow
    clear hrow
    cases hc : is [93] l2 with
    | false =>
      refine (must_no ((H7.out.alloc _).alloc _) [93] hc).mono ?_
      rintro en w8 ⟨rfl, hb8⟩
      exact ⟨rfl, by rw [HY.out, show (R.ok y l2).bind (fun x l2 => (must [93] l2).bind fun _ l3 => R.ok (Ex.mk 3 0 t.text [x]) l3) = .err l2 4 from by simp [R.bind, must, hc]]; exact ⟨rfl, ((Ext.refl _ w).alloc _).trans' (hXa.below hb8)⟩⟩
    | true =>
      refine (must_yes ((H7.out.alloc _).alloc _) [93] hc).mono ?_
      rintro en w8 ⟨rfl, hx8, h8⟩
      obtain ⟨d0, d1, d2, d3⟩ := (cells4.new (w7.alloc (.cells #[.int .i64 y.kind, .int .i64 y.num, .string (ba y.name), .slice A7 y.kids.length c7] 36)) (.int .i64 3) (.int .i64 0) (.string (ba t.text)) (.slice (some ⟨w7.heap.size, 0, none⟩) 1 1) 36).ext hx8 (by simp; omega)
      rw [World.size_alloc] at d0 d1 d2 d3
      replace hXa := hXa.trans' hx8
      obtain ⟨s0, s1, s2, s3⟩ := (cells4.new w _ _ _ _ 36).ext hXa hp0
      have sf := frz_ext (frozen_new w _ 36) hXa (by simp) hp0
      have HX := Lib.hid hXa
      have H8 := Lib.hid h8
      have HX8 := Lib.hid hx8
      have HC := Lib.hid hc
      clear hXa h8 hx8 hc
      go_wp2_with fail
      rw [HY.out, show (R.ok y l2).bind (fun x l2 => (must [93] l2).bind fun _ l3 => R.ok (Ex.mk 3 0 t.text [x]) l3) = .ok (.mk 3 0 t.text [y]) l2.tail from by simp [R.bind, must, HC.out]]
      exact epost_fin (x := .mk 3 0 t.text [y]) rfl rfl HX.out H8.out (HROW.out.ext (((Ext.refl _ _).alloc _).trans' HX8.out) (fun b hb => by omega) (Nat.le_refl _)) h
theorem un_step (ih : PAll n) (h : PSt w pb tb e l) (hne : (gram (n + 1)).un l ≠ .out) : Calls Tryd.prog 113 #[pp pb] w (EPost w pb tb e ((gram (n + 1)).un l)) := by
  cases hm : is [45] l with
  | true => exact un_minus ih h hm hne
  | false =>
    cases hm2 : is [33] l with
    | true => exact un_not ih h hm hm2 hne
    | false =>
      cases l with
      | nil => exact un_nil h
      | cons t l =>
        by_cases hk : t.kind = 3
        · exact un_num t h hm hm2 hk
        · cases hq : is [40] (t :: l) with
          | true => exact un_paren t ih h hm hm2 hk hq hne
          | false =>
            by_cases hk1 : t.kind = 1
            · by_cases hlen : 40 < t.text.length
              · exact un_longname t h hm hm2 hk1 hq hlen
              · cases hb1 : is [91] l with
                | true => exact un_index ih h hm hm2 hk1 hq (by omega) hb1 hne
                | false =>
                  cases hb2 : is [40] l with
                  | true => exact un_call ih h hm hm2 hk1 hq (by omega) hb1 hb2 hne
                  | false => exact un_name h hm hm2 hk1 hq (by omega) hb1 hb2
            · exact un_noname t h hm hm2 hk hq hk1
end
end Go.Proofs.YtdijffojppjmfaaDoor
