/- The reference's depths. The reference's begin, ParseExpr. -/
import Derived.Test.YtdijffojppjmfaaDoorQo
import Derived.Test.YtdijffojppjmfaaDoorUk
import Derived.Test.YtdijffojppjmfaaDoorUa
import Derived.Test.YtdijffojppjmfaaDoorQp
set_option linter.unusedVariables false
set_option linter.unusedSimpArgs false
namespace Go.Proofs.YtdijffojppjmfaaDoor
open Go.RowKit Bir Go.BW
set_option maxRecDepth 100000 in
set_option maxHeartbeats 2000000 in
theorem rdepth_calls : ∀ (m : Nat) (x : Ex) {w : World} {ok : Nat → Prop} {kv : Value}, sizeE x ≤ m → m ≤ 1000000000 → ERow w ok kv x.kids →
    Calls Tryd.prog 47 #[.agg #[.int .i64 x.kind, .int .i64 x.num, .string (ba x.name), kv]] w fun en w' => en = .returned (.int .i64 (deepE x)) ∧ Below w.heap.size w w'
  | 0, x, w, ok, kv, h, _, _ => absurd h (by rw [sizeE_eq]; omega)
  | m + 1, x, w, ok, kv, h, hm, hr => by
    have ih := rdepth_calls m
    obtain ⟨A, c, rfl, hc⟩ := hr.slice
    have hsz := sizeE_eq x
    have hlen := len_sizeEs x.kids
    have HS : Hid (∀ y ∈ x.kids, sizeE y ≤ m) := Lib.hid fun y hy => by have := mem_sizeEs hy; omega
    have HD := Lib.hid (deepE_eq x)
    have HI := Lib.hid ih
    have hl9 : x.kids.length ≤ 1000000000 := by omega
    have HQ : Hid (∀ k, deepEs (x.kids.take k) ≤ 1000000000) := Lib.hid fun k => by have := deepEs_size (x.kids.take k); have h2 := sizeEs_app (x.kids.take k) (x.kids.drop k); rw [List.take_append_drop] at h2; omega
    have HC := Lib.hid (cells4.new w (.int .i64 x.kind) (.int .i64 x.num) (.string (ba x.name)) (.slice A x.kids.length c) 36)
    have hlt0 : w.heap.size < (w.alloc (.cells #[.int .i64 x.kind, .int .i64 x.num, .string (ba x.name), .slice A x.kids.length c] 36)).heap.size := by simp
    have HR := Lib.hid (hr.keep (w1 := w.alloc (.cells #[.int .i64 x.kind, .int .i64 x.num, .string (ba x.name), .slice A x.kids.length c] 36)) (ok' := fun _ => True) (by simp) fun b _ hl => ⟨Below.heap_alloc _ _ b hl, trivial⟩)
    have HB : Hid (Below w.heap.size w (w.alloc (.cells #[.int .i64 x.kind, .int .i64 x.num, .string (ba x.name), .slice A x.kids.length c] 36))) := Lib.hid ((Below.refl _ w).alloc (Nat.le_refl _) _)
    clear ih hsz hlen h hr
    go_enter Tryd.func47, Tryd.ntmps47
    go_wp2_with fail
    generalize w.alloc (.cells #[.int .i64 x.kind, .int .i64 x.num, .string (ba x.name), .slice A x.kids.length c] 36) = W at HC HR HB hlt0 ⊢
    go_loopw [3, 4] (fun n i wr => ∃ k : Nat, k ≤ x.kids.length ∧ i = .int .i64 k ∧ n = .int .i64 (deepEs (x.kids.take k) : Nat) ∧ Below W.heap.size W wr) (fun _ i _ => x.kids.length - (intOf i).toNat)
    case atStart => exact ⟨0, Nat.zero_le _, rfl, by simp [deepEs], Below.refl _ W⟩
    case round =>
      obtain ⟨k, hk, rfl, rfl, hb⟩ := hrel
      have q3 := cell_ext HC.out.2.2.2 (Ext.of_below hb (fun _ => False)) id
      by_cases hlt : k < x.kids.length
      · obtain ⟨b, off, kv, rfl, hbl, ⟨a0, a1, a2, a3⟩, hkr⟩ := erow_at (HR.out.keep (w1 := ‹World›) (ok' := fun _ => True) hb.size fun b _ hlt => ⟨hb.block b hlt, trivial⟩) hlt
        obtain ⟨A1, c1, rfl, _⟩ := hkr.slice
        have HK := Lib.hid hkr
        clear hkr
        have HT : Hid (deepEs (x.kids.take (k + 1)) = max (deepEs (x.kids.take k)) (deepE x.kids[k])) := Lib.hid (by rw [take_snoc' _ _ hlt, deepEs_snoc])
        have HSk : Hid (sizeE x.kids[k] ≤ m) := Lib.hid (HS.out _ (List.getElem_mem hlt))
        generalize x.kids[k] = y at *
        go_wp2_with fail
        refine (HI.out y HSk.out (by omega) HK.out).mono ?_
        rintro en w2 ⟨rfl, hb2⟩
        go_wp2_with fail
        refine ⟨⟨k + 1, by omega, by go_num, ?_, hb.trans (hb2.mono hb.size)⟩, by simp [intOf]; omega⟩
        rw [HT.out]
        exact congrArg (Value.int IntKind.i64) (by omega)
      · obtain rfl : k = x.kids.length := by omega
        have hq := HQ.out x.kids.length
        rw [List.take_length] at hq ⊢
        have hq : (deepEs x.kids : Int) ≤ 1000000000 := by omega
        go_wp2_with fail
        go_ret
        exact ⟨by rw [HD.out]; exact congrArg (fun v => Ending.returned (Value.int IntKind.i64 v)) (by omega), HB.out.trans (hb.mono HB.out.size)⟩
set_option maxRecDepth 100000 in
set_option maxHeartbeats 4000000 in
theorem rblockd_calls : ∀ (m : Nat) (l : List St) {w : World} {ok : Nat → Prop} {lv : Value}, sizeB l ≤ m → m ≤ 1000000000 → SRow w ok lv l →
    Calls Tryd.prog 81 #[lv] w fun en w' => en = .returned (.int .i64 (deepB l)) ∧ Below w.heap.size w w' := by
  intro m
  induction m using Nat.strongRecOn with
  | _ m ih =>
    intro l w ok lv h hm hr
    obtain ⟨A, c, rfl, hc⟩ := hr.slice
    have hlen := len_sizeB l
    have HS : Hid (∀ y ∈ l, sizeS y ≤ m) := Lib.hid fun y hy => by have := mem_sizeB hy; omega
    have HI := Lib.hid ih
    have HR := Lib.hid hr
    have hl9 : l.length ≤ 1000000000 := by omega
    have HDT : Hid (∀ k, deepB (l.take k) ≤ 1000000000) := Lib.hid fun k => by have := deepB_size (l.take k); have h2 := sizeB_app (l.take k) (l.drop k); rw [List.take_append_drop] at h2; omega
    clear ih hlen h hr
    go_enter Tryd.func81, Tryd.ntmps81
    go_wp2_with fail
    go_loopw [3, 4] (fun n i wr => ∃ k : Nat, k ≤ l.length ∧ i = .int .i64 k ∧ n = .int .i64 (deepB (l.take k) : Nat) ∧ Below w.heap.size w wr) (fun _ i _ => l.length - (intOf i).toNat)
    case atStart => exact ⟨0, Nat.zero_le _, rfl, by simp [deepB], Below.refl _ w⟩
    case round =>
      obtain ⟨k, hk, rfl, rfl, hb⟩ := hrel
      obtain ⟨wo, hwo⟩ : ∃ wo, wr = wo := ⟨_, rfl⟩
      subst hwo
      by_cases hlt : k < l.length
      · obtain ⟨b, off, ev, bv, lv, rfl, hbl, ⟨a0, a1, a2, a3, a4⟩, he, hbb, hll⟩ := srow_at (HR.out.keep (w1 := ‹World›) (ok' := fun _ => True) hb.size fun b _ hlt => ⟨hb.block b hlt, trivial⟩) hlt
        obtain ⟨A1, c1, rfl, _⟩ := he.slice
        obtain ⟨A2, c2, rfl, _⟩ := hbb.slice
        obtain ⟨A3, c3, rfl, _⟩ := hll.slice
        have HT : Hid (deepB (l.take (k + 1)) = max (deepB (l.take k)) (deepS l[k])) := Lib.hid (by rw [take_snoc' _ _ hlt, deepB_snoc])
        have HSk : Hid (sizeS l[k] ≤ m) := Lib.hid (HS.out _ (List.getElem_mem hlt))
        generalize l[k] = y at *
        have hsz := sizeS_eq y
        have hms := HSk.out
        have hd1 := deepB_size y.body
        have hd2 := deepB_size y.els
        have hd3 := deepEs_size y.exprs
        have hb1 : (deepB y.body : Int) ≤ 1000000000 := by omega
        have hb2 : (deepB y.els : Int) ≤ 1000000000 := by omega
        have HSZ := Lib.hid hsz
        have HB1 : Hid (∀ W', Below wr.heap.size wr W' → Calls Tryd.prog 81 #[.slice A2 y.body.length c2] W' fun en w' => en = .returned (.int .i64 (deepB y.body)) ∧ Below wr.heap.size wr w') := Lib.hid fun W' hW =>
          (HI.out (sizeB y.body) (by have := HSZ.out; have := HSk.out; omega) y.body (Nat.le_refl _) (by have := HSZ.out; have := HSk.out; omega) (hbb.keep (w1 := W') (ok' := fun _ => True) hW.size fun b' _ hl => ⟨hW.block b' hl, trivial⟩)).mono fun en w' h => ⟨h.1, hW.trans (h.2.mono hW.size)⟩
        have HB2 : Hid (∀ W', Below wr.heap.size wr W' → Calls Tryd.prog 81 #[.slice A3 y.els.length c3] W' fun en w' => en = .returned (.int .i64 (deepB y.els)) ∧ Below wr.heap.size wr w') := Lib.hid fun W' hW =>
          (HI.out (sizeB y.els) (by have := HSZ.out; have := HSk.out; omega) y.els (Nat.le_refl _) (by have := HSZ.out; have := HSk.out; omega) (hll.keep (w1 := W') (ok' := fun _ => True) hW.size fun b' _ hl => ⟨hW.block b' hl, trivial⟩)).mono fun en w' h => ⟨h.1, hW.trans (h.2.mono hW.size)⟩
        have HBE : Hid (∀ W', Below wr.heap.size wr W' → ERow W' (fun _ => True) (.slice A1 y.exprs.length c1) y.exprs) := Lib.hid fun W' hW => he.keep (w1 := W') (ok' := fun _ => True) hW.size fun b' _ hl => ⟨hW.block b' hl, trivial⟩
        have HR0 : Hid (Below wr.heap.size wr wr.drew) := Lib.hid (Below.refl _ _).drew
        have HA2 := Lib.hid a2
        have HD0 : Hid (deepB (l.take k) ≤ 1000000000) := Lib.hid (HDT.out k)
        have g0 : (0 : Int) ≤ (k : Int) := by omega
        have g1 : (k : Int) < (l.length : Int) := by omega
        clear hsz hms hd1 hd2 hd3 he hbb hll a0 a1 a2
        go_wp2_with fail
        go_region_held3 (fun w' => w'.cell? ⟨b, off + k * 5 + 3, none⟩ = some (.slice A2 y.body.length c2) ∧ w'.cell? ⟨b, off + k * 5 + 4, none⟩ = some (.slice A3 y.els.length c3)) (go_keep)
          (first
            | (go_at_call 81; (with_reducible refine (HB1.out _ ?_).mono ?_); (first | exact hbW | exact HR0.out); rintro en w3 ⟨rfl, hbW⟩; have k3 := (hbW.cell (p := ⟨b, off + k * 5 + 3, none⟩) hbl).trans a3; have k4 := (hbW.cell (p := ⟨b, off + k * 5 + 4, none⟩) hbl).trans a4)
            | (go_at_call 81; (with_reducible refine (HB2.out _ ?_).mono ?_); (first | exact hbW | exact HR0.out); rintro en w3 ⟨rfl, hbW⟩; have k3 := (hbW.cell (p := ⟨b, off + k * 5 + 3, none⟩) hbl).trans a3; have k4 := (hbW.cell (p := ⟨b, off + k * 5 + 4, none⟩) hbl).trans a4))
        clear k3 k4
        have kE := (hbW.cell (p := ⟨b, off + k * 5 + 2, none⟩) hbl).trans HA2.out
        have HBW := Lib.hid hbW
        obtain ⟨d0, hd0e⟩ : ∃ d0 : Nat, d0 = max (deepB y.body) (deepB y.els) := ⟨_, rfl⟩
        rw [show (max (deepB y.body : Int) (deepB y.els : Int)) = (d0 : Int) from by omega]
        have HD0E := Lib.hid hd0e
        have hd2 : d0 ≤ 1000000000 := by omega
        have hel := len_sizeEs y.exprs
        have hel9 : y.exprs.length ≤ 1000000000 := by have := HSZ.out; have := HSk.out; omega
        have hbl3 : b < w3.heap.size := by have := hbW.size; omega
        have HQE : Hid (∀ j, deepEs (y.exprs.take j) ≤ 1000000000) := Lib.hid fun j => by have := deepEs_size (y.exprs.take j); have h2 := sizeEs_app (y.exprs.take j) (y.exprs.drop j); rw [List.take_append_drop] at h2; have := HSZ.out; have := HSk.out; omega
        clear hbW hd0e hel a3 a4
        go_wp2_with fail
        go_loopw [5, 6] (fun n i wq => ∃ j : Nat, j ≤ y.exprs.length ∧ i = .int .i64 j ∧ n = .int .i64 (max d0 (deepEs (y.exprs.take j)) : Nat) ∧ Below w3.heap.size w3 wq) (fun _ i _ => y.exprs.length - (intOf i).toNat)
        case atStart => exact ⟨0, Nat.zero_le _, rfl, by simp [deepEs], Below.refl _ _⟩
        case round =>
          obtain ⟨j, hj, rfl, rfl, hbq⟩ := hrel
          have kE2 := (hbq.cell (p := ⟨b, off + k * 5 + 2, none⟩) hbl3).trans kE
          have hwq := HBW.out.trans (hbq.mono HBW.out.size)
          by_cases hjt : j < y.exprs.length
          · obtain ⟨b2, off2, kv, hA1, hb2l, ⟨e0, e1, e2, e3⟩, hkr⟩ := erow_at (HBE.out _ hwq) hjt
            subst hA1
            obtain ⟨A4, c4, rfl, _⟩ := hkr.slice
            have HK := Lib.hid hkr
            clear hkr
            have HT2 : Hid (max d0 (deepEs (y.exprs.take (j + 1))) = max (max d0 (deepEs (y.exprs.take j))) (deepE y.exprs[j])) := Lib.hid (by rw [take_snoc' _ _ hjt, deepEs_snoc]; omega)
            have hzs : sizeE y.exprs[j] ≤ 1000000000 := by have := mem_sizeEs (List.getElem_mem hjt); have := HSZ.out; have := HSk.out; omega
            have HZS := Lib.hid hzs
            have hq1 := HQE.out j
            clear hzs
            generalize y.exprs[j] = z at *
            generalize hq0 : max d0 (deepEs (y.exprs.take j)) = q0 at *
            have HQ0 := Lib.hid hq0
            have hj0 : (0 : Int) ≤ (j : Int) := by omega
            have hj1 : (j : Int) < (y.exprs.length : Int) := by omega
            clear hq0 hwq hq1
            go_wp2_with fail
            refine (rdepth_calls (sizeE z) z (Nat.le_refl _) HZS.out HK.out).mono ?_
            rintro en w5 ⟨rfl, hb5⟩
            go_wp2_with fail
            refine ⟨⟨j + 1, by omega, by go_num, ?_, hbq.trans (hb5.mono hbq.size)⟩, by simp [intOf]; omega⟩
            rw [HT2.out]
            exact congrArg (Value.int IntKind.i64) (by omega)
          · obtain rfl : j = y.exprs.length := by omega
            have hq1 := HQE.out y.exprs.length
            rw [List.take_length] at hq1 ⊢
            obtain ⟨q0, hq0⟩ : ∃ q0 : Nat, q0 = max d0 (deepEs y.exprs) := ⟨_, rfl⟩
            have hfin : max (deepB (l.take k)) (q0 + 1) = deepB (l.take (k + 1)) := by
              rw [HT.out, deepS_eq y, hq0, HD0E.out]
              omega
            rw [← hq0]
            have HFIN := Lib.hid hfin
            have hq3 : q0 ≤ 1000000000 := by omega
            have HW := Lib.hid (hb.trans (hwq.mono hb.size))
            clear hfin hq0 hq1 hwq
            go_wp2_with fail
            refine ⟨⟨k + 1, by omega, by go_num, ?_, HW.out⟩, by simp [intOf]; omega⟩
            rw [← HFIN.out]
            exact congrArg (Value.int IntKind.i64) (by omega)
      · obtain rfl : k = l.length := by omega
        rw [List.take_length]
        go_wp2_with fail
        go_ret
        exact ⟨rfl, hb⟩
theorem deepP_mem {fs : List Bir.Fn} {y : Bir.Fn} (hy : y ∈ fs) : deepB y.body ≤ deepP fs := by
  obtain ⟨a, b, rfl⟩ := List.append_of_mem hy
  rw [show a ++ y :: b = (a ++ [y]) ++ b from by simp, deepP_app, deepP_snoc]
  omega
set_option maxRecDepth 100000 in
set_option maxHeartbeats 2000000 in
theorem rdeep_calls (fs : List Bir.Fn) {w : World} {ok : Nat → Prop} {A0 : Option Addr} {n0 c0 : Nat} {fv : Value} (hs : sizeP fs + fs.length ≤ 1000000000) (hr : FnRow w ok fv fs) :
    Calls Tryd.prog 40 #[.agg #[.slice A0 n0 c0, fv]] w fun en w' => en = .returned (.bool (decide (60 < deepP fs))) ∧ Below w.heap.size w w' := by
  obtain ⟨A, c, rfl, hc⟩ : ∃ A c, fv = .slice A fs.length c ∧ fs.length ≤ c := by
    obtain ⟨cs, h1, _⟩ := hr
    exact h1.slice
  have HS : Hid (∀ y ∈ fs, sizeB y.body ≤ 1000000000) := Lib.hid fun y hy => by have := mem_sizeP hy; omega
  have hl9 : fs.length ≤ 1000000000 := by omega
  have HC := Lib.hid (cells2.new w (.slice A0 n0 c0) (.slice A fs.length c) 26)
  have HR := Lib.hid (hr.keep (w1 := w.alloc (.cells #[.slice A0 n0 c0, .slice A fs.length c] 26)) (ok' := fun _ => True) (by simp) fun b _ hl => ⟨Below.heap_alloc _ _ b hl, trivial⟩)
  have HB : Hid (Below w.heap.size w (w.alloc (.cells #[.slice A0 n0 c0, .slice A fs.length c] 26))) := Lib.hid ((Below.refl _ w).alloc (Nat.le_refl _) _)
  generalize hd : decide (60 < deepP fs) = d
  have HD := Lib.hid hd
  clear hr hs hd
  go_enter Tryd.func40, Tryd.ntmps40
  go_wp2_with fail
  generalize w.alloc (.cells #[.slice A0 n0 c0, .slice A fs.length c] 26) = W at HC HR HB ⊢
  go_loopw [3] (fun i wr => ∃ k : Nat, k ≤ fs.length ∧ i = .int .i64 k ∧ Hid (deepP (fs.take k) ≤ 60) ∧ Below W.heap.size W wr) (fun i _ => fs.length - (intOf i).toNat)
  case atStart => exact ⟨0, Nat.zero_le _, rfl, Nat.zero_le _, Below.refl _ W⟩
  case round =>
    obtain ⟨k, hk, rfl, hle, hb⟩ := hrel
    have q1 := cell_ext HC.out.2 (Ext.of_below hb (fun _ => False)) id
    by_cases hlt : k < fs.length
    · obtain ⟨b, off, pv, bv, rfl, hbl, a0, a1, a2, hp, hkr⟩ := fnrow_at (HR.out.keep (w1 := ‹World›) (ok' := fun _ => True) hb.size fun b _ hlt => ⟨hb.block b hlt, trivial⟩) hlt
      obtain ⟨A1, c1, rfl, _⟩ := hkr.slice
      have HK := Lib.hid hkr
      clear hkr hp
      have HT : Hid (deepP (fs.take (k + 1)) = max (deepP (fs.take k)) (deepB fs[k].body)) := Lib.hid (by rw [take_snoc' _ _ hlt, deepP_snoc])
      have HSk : Hid (sizeB fs[k].body ≤ 1000000000) := Lib.hid (HS.out _ (List.getElem_mem hlt))
      have HM : Hid (deepB fs[k].body ≤ deepP fs) := Lib.hid (deepP_mem (List.getElem_mem hlt))
      generalize fs[k] = y at *
      by_cases h60 : 60 < deepB y.body
      · have e1 : decide ((60 : Int) < (deepB y.body : Int)) = true := by simp; omega
        have HF : Hid (d = true) := Lib.hid (by rw [← HD.out, decide_eq_true_eq]; have := HM.out; omega)
        clear h60
        go_wp2_with fail
        refine (rblockd_calls (sizeB y.body) y.body (Nat.le_refl _) HSk.out HK.out).mono ?_
        rintro en w2 ⟨rfl, hb2⟩
        go_wp2_with fail
        go_ret
        exact ⟨by rw [HF.out]; rfl, (HB.out.trans (hb.mono HB.out.size)).trans (hb2.mono (by have := HB.out.size; have := hb.size; omega))⟩
      · have e1 : decide ((60 : Int) < (deepB y.body : Int)) = false := by simp; omega
        have h60' : deepB y.body ≤ 60 := by omega
        have H60 := Lib.hid h60'
        clear h60 h60'
        go_wp2_with fail
        refine (rblockd_calls (sizeB y.body) y.body (Nat.le_refl _) HSk.out HK.out).mono ?_
        rintro en w2 ⟨rfl, hb2⟩
        go_wp2_with fail
        refine ⟨⟨k + 1, by omega, by go_num, ?_, hb.trans (hb2.mono hb.size)⟩, by simp [intOf]; omega⟩
        show deepP (fs.take (k + 1)) ≤ 60
        rw [HT.out]
        have := hle.out
        have := H60.out
        omega
    · have HF : Hid (d = false) := Lib.hid (by rw [← HD.out, decide_eq_false_iff_not]; have := hle.out; rw [List.take_of_length_le (by omega)] at this; omega)
      go_wp2_with fail
      go_ret
      exact ⟨by rw [HF.out]; rfl, HB.out.trans (hb.mono HB.out.size)⟩
end Go.Proofs.YtdijffojppjmfaaDoor
set_option linter.unusedVariables false
set_option linter.unusedSimpArgs false
namespace Go.Proofs.YtdijffojppjmfaaDoor
open Go.RowKit Bir Go.BW
theorem cells6_new (w : World) (a b c d e f : Value) (t : TypeId) : cells6 (w.alloc (.cells #[a, b, c, d, e, f] t)) w.heap.size a b c d e f := by simp [cells6]
/-- What begin hands back. -/
def BgPost (s : Str) (w : World) (en : Ending) (w' : World) : Prop :=
  Below w.heap.size w w' ∧
  ((∃ rb a k, k ≠ 0 ∧ en = .returned (.tuple #[pp rb, .int .i64 (a : Nat), .int .i64 (k : Nat)]) ∧ (∀ (α : Type) (p : List Tok → R α), readRes p s = (none, a, k))) ∨
   s.length ≤ 20000 ∧ ∃ l rb tb, lex s = .ok l ∧ en = .returned (.tuple #[pp rb, .int .i64 0, .int .i64 0]) ∧ w.heap.size ≤ rb ∧ RM w' rb tb s.length l RS.zero)
set_option maxHeartbeats 2000000 in
theorem rbegin_calls (s : Str) (w : World) (hs : s.length ≤ 20001) : Calls Tryd.prog 38 #[.string (ba s)] w (BgPost s w) := by
  go_enter Tryd.func38, Tryd.ntmps38
  go_wp2_with fail
  refine (rlex_tok s (by omega) _).mono ?_
  rintro en w1 ⟨⟨hb, (⟨hbad, rfl⟩ | ⟨hl2, (⟨a', hbad, rfl⟩ | ⟨l, A, c, hok, rfl, hc1, hc2, htk⟩)⟩)⟩, hT⟩
  · have HR : Hid (∀ (α : Type) (p : List Tok → R α), readRes p s = (none, 0, 3)) := Lib.hid fun α p => if_pos hbad
    clear hbad hT
    go_wp2_with fail
    refine bodyPost_ret (v := .tuple #[pp w1.heap.size, .int .i64 0, .int .i64 3]) (by simp [results, Tryd.results38, go_sem]) rfl ⟨hb.alloc hb.size _, .inl ⟨_, 0, 3, by omega, rfl, HR.out⟩⟩
  · have HR : Hid (∀ (α : Type) (p : List Tok → R α), readRes p s = (none, a', 4)) := Lib.hid fun α p => by unfold readRes; rw [if_neg (by omega), hbad]
    clear hbad hT
    go_wp2_with fail
    refine bodyPost_ret (v := .tuple #[pp w1.heap.size, .int .i64 a', .int .i64 4]) (by simp [results, Tryd.results38, go_sem]) rfl ⟨hb.alloc hb.size _, .inl ⟨_, a', 4, by omega, rfl, HR.out⟩⟩
  · have HOK := Lib.hid hok
    have HTK := Lib.hid htk
    have HTT := Lib.hid hT
    have hlen := lex_len hs hok
    obtain ⟨hwf, _⟩ := lex_ok (by omega) hok
    have HWF := Lib.hid hwf
    have hn := cells6_new w1 (.slice A l.length c) (.int .i64 s.length) (.int .i64 0) (.int .i64 0) (.int .i64 0) (.slice none 0 0) 71
    have hf := frozen_new w1 #[.slice A l.length c, .int .i64 s.length, .int .i64 0, .int .i64 0, .int .i64 0, .slice none 0 0] 71
    have hE := (Ext.refl (fun _ => False) w1).alloc (.cells #[.slice A l.length c, .int .i64 s.length, .int .i64 0, .int .i64 0, .int .i64 0, .slice none 0 0] 71)
    have hnew : (w1.alloc (.cells #[.slice A l.length c, .int .i64 s.length, .int .i64 0, .int .i64 0, .int .i64 0, .slice none 0 0] 71)).heap[w1.heap.size]? = some (.cells #[.slice A l.length c, .int .i64 s.length, .int .i64 0, .int .i64 0, .int .i64 0, .slice none 0 0] 71 (0, 0)) := by
      show (w1.heap.push _)[w1.heap.size]? = _
      exact Array.getElem?_push_size
    have hrm : ∃ tb, RM (w1.alloc (.cells #[.slice A l.length c, .int .i64 s.length, .int .i64 0, .int .i64 0, .int .i64 0, .slice none 0 0] 71)) w1.heap.size tb s.length l RS.zero := by
      have hns : ¬ isSpan (w1.alloc (.cells #[.slice A l.length c, .int .i64 s.length, .int .i64 0, .int .i64 0, .int .i64 0, .slice none 0 0] 71)) w1.heap.size := by
        rintro ⟨cs, fr, hh⟩
        rw [hnew] at hh
        injection hh with hh
        injection hh with _ hh _
        exact absurd hh (by decide)
      rcases HTK.out with h0 | ⟨tb, hA, htb, htb2, hta⟩
      · exact ⟨0, ⟨by simp, hf, Nat.zero_le _, hlen, Nat.zero_le _, hwf, hns, fun hn0 => absurd h0 hn0, A, c, _, hn, hc1, fun hn0 => absurd h0 hn0, World.ownsRow_nil _ _ _ _⟩⟩
      · obtain ⟨cs, fr, hty⟩ := hT ⟨tb, 0, none⟩ l.length c (.int .i64 0) (.int .i64 0) (by rw [hA])
        have hk := hE.block tb htb2 id
        refine ⟨tb, ⟨by simp, hf, Nat.zero_le _, hlen, Nat.zero_le _, hwf, hns, fun hn0 => ⟨by simp; omega, by omega, ?_, hta.keep hk⟩, A, c, _, hn, hc1, fun _ => hA, World.ownsRow_nil _ _ _ _⟩⟩
        rintro ⟨cs', fr', hh⟩
        rw [hk, hty] at hh
        injection hh with hh
        injection hh with _ hh _
        exact absurd hh (by decide)
    have HRM := Lib.hid hrm
    clear hok htk hT hwf hn hf hE hnew hrm
    go_wp2_with fail
    obtain ⟨tb, h⟩ := HRM.out
    exact bodyPost_ret (v := .tuple #[pp w1.heap.size, .int .i64 0, .int .i64 0]) (by simp [results, Tryd.results38, go_sem]) rfl ⟨hb.alloc hb.size _, .inr ⟨hl2, l, _, tb, HOK.out, rfl, hb.size, h⟩⟩
/-- A block, known whole. -/
def LB (w : World) (b : Nat) (t : TypeId) (cs : List Value) : Prop := w.heap[b]? = some (.cells cs.toArray t (0, 0))
section
variable {w w1 : World} {rb b : Nat} {t : TypeId} {cs : List Value}
theorem LB.new (w : World) (cs : List Value) (t : TypeId) : LB (w.alloc (.cells cs.toArray t)) w.heap.size t cs := by
  show (w.heap.push _)[w.heap.size]? = _
  exact Array.getElem?_push_size
theorem LB.lt (h : LB w b t cs) : b < w.heap.size := (Array.getElem?_eq_some_iff.1 h).1
theorem LB.below (h : LB w b t cs) (hb : Below w.heap.size w w1) : LB w1 b t cs := (hb.block b h.lt).trans h
theorem LB.rx (h : LB w b t cs) (hx : RX rb w w1) (hn : b < rb) : LB w1 b t cs := (hx.ext.block b h.lt fun hh => hh.elim (fun e => by omega) fun q => by omega).trans h
theorem LB.c (h : LB w b t cs) (j : Nat) (u : Value) (hj : cs[j]? = some u) : w.cell? ⟨b, j, none⟩ = some u := by
  simp [World.cell?, show w.heap[b]? = _ from h, hj]
theorem LB.f (h : LB w b t cs) (o : Nat) : w.frozen? ⟨b, o, none⟩ = false := by
  simp [World.frozen?, show w.heap[b]? = _ from h]
end
theorem rpx_end {w W : World} {tm : Array Value} {r : Option Ex} {off k : Nat} {x0 x1 : Int} {x2 : ByteArray} {x3 z0 z1 z2 z3 : Value} (hb : Below w.heap.size w W) (hc : cells4 W w.heap.size z0 z1 z2 z3) (h2 : tm[2]? = some (.pointer (some ⟨w.heap.size, 0, none⟩))) (h3 : tm[3]? = some (.int .i64 off)) (h4 : tm[4]? = some (.int .i64 k))
    (hv : match r with | none => Value.agg #[.int .i64 x0, .int .i64 x1, .string x2, x3] = zE | some x => ExVal w x (.agg #[.int .i64 x0, .int .i64 x1, .string x2, x3]) (set4 W w.heap.size (.int .i64 x0) (.int .i64 x1) (.string x2) x3)) :
    bodyPost Tryd.prog Tryd.f20 (ReadPost zE ExVal w (r, off, k)) .ret { tmps := tm, defers := [] } (set4 W w.heap.size (.int .i64 x0) (.int .i64 x1) (.string x2) x3) := by
  obtain ⟨q0, q1, q2, q3⟩ := set4_cells (.int .i64 x0) (.int .i64 x1) (.string x2) x3 hc.1 hc.2.1 hc.2.2.1 hc.2.2.2
  have hB : Below w.heap.size w (set4 W w.heap.size (.int .i64 x0) (.int .i64 x1) (.string x2) x3) := hb.trans ((ext_set4 W w.heap.size _ _ _ _).to_below hb.size (fun b hb => by omega))
  generalize set4 W w.heap.size (.int .i64 x0) (.int .i64 x1) (.string x2) x3 = W' at *
  cases r <;> exact bodyPost_ret (v := .tuple #[.agg #[.int .i64 x0, .int .i64 x1, .string x2, x3], .int .i64 off, .int .i64 k]) (by simp [results, Tryd.results20, go_sem, h2, h3, h4, q0, q1, q2, q3]) rfl ⟨hB, _, rfl, hv⟩
theorem rx_below {w w1 w2 : World} {rb : Nat} (hb : Below w.heap.size w w1) (hx : RX rb w1 w2) (hr : w.heap.size ≤ rb) : Below w.heap.size w w2 :=
  hb.trans (hx.ext.to_below hb.size fun b hh => hh.elim (fun e => by omega) fun q => by omega)
set_option maxRecDepth 100000 in
set_option maxHeartbeats 8000000 in
theorem rparseX_calls {w : World} (s : Str) (hs : s.length ≤ 20001) : Calls Tryd.prog 20 #[.string (ba s)] w (ReadPost zE ExVal w (parseX s)) := by
  go_enter Tryd.func20, Tryd.ntmps20
  go_wp2_with fail
  have HB0 : Hid (Below w.heap.size w (w.alloc (.cells #[.int .i64 0, .int .i64 0, .string ⟨#[]⟩, .slice none 0 0] 36))) := Lib.hid ((Below.refl _ w).alloc (Nat.le_refl _) _)
  have HLB : Hid (LB (w.alloc (.cells #[.int .i64 0, .int .i64 0, .string ⟨#[]⟩, .slice none 0 0] 36)) w.heap.size 36 zX) := Lib.hid (LB.new w zX _)
  refine (rbegin_calls s _ hs).mono ?_
  rintro en w1 ⟨hb1, (⟨rb, a, k, hk, rfl, hrd⟩ | ⟨hl2, l, rb, tb, hok, rfl, hrb, hrm⟩)⟩
  · have HF : Hid (parseX s = (none, a, k)) := Lib.hid (by unfold parseX; rw [hrd])
    have e1 : ((k : Int) != 0) = true := bne_iff_ne.2 (by omega)
    have h1 := HLB.out.below hb1
    have q0 := h1.c 0 _ rfl
    have q1 := h1.c 1 _ rfl
    have q2 := h1.c 2 _ rfl
    have q3 := h1.c 3 _ rfl
    have qf := h1.f
    have ql := h1.lt
    have HB1 := Lib.hid (HB0.out.trans (hb1.mono (by simp)))
    clear hk hrd hb1 h1
    go_wp2_with fail
    rw [HF.out]
    exact rpx_end HB1.out ⟨q0, q1, q2, q3⟩ rfl rfl rfl rfl
  · have HB1 := Lib.hid (HB0.out.trans (hb1.mono (by simp)))
    have HL1 := Lib.hid (HLB.out.below hb1)
    rw [World.size_alloc] at hrb
    obtain ⟨p, hp, hres⟩ := read_expr s.length (lex_len hs hok)
    have HC := Lib.hid ((rall (fuel0 + 13) (by unfold fuel0; omega)).expr hrm hp)
    have HP := Lib.hid hp
    clear hb1 hp HB0 HLB
    go_wp2_with fail
    refine HC.out.mono ?_
    rintro en w2 ⟨v, rfl, ⟨kv, rfl, hr⟩, hx, hm⟩
    obtain ⟨A1, c1, rfl, _⟩ := hr.slice
    have hal : Below w2.heap.size w2 (w2.alloc (.cells #[.int .i64 p.1.kind, .int .i64 p.1.num, .string (ba p.1.name), .slice A1 p.1.kids.length c1] 36)) := (Below.refl _ _).alloc (Nat.le_refl _) _
    have hrow : ERow (w2.alloc (.cells #[.int .i64 p.1.kind, .int .i64 p.1.num, .string (ba p.1.name), .slice A1 p.1.kids.length c1] 36)) (From (w.heap.size + 1)) (.slice A1 p.1.kids.length c1) p.1.kids :=
      hr.keep hal.size fun b hb hl => ⟨hal.block b hl, by have := hb.1; have h9 := HL1.out.lt; show w.heap.size + 1 ≤ b; omega⟩
    have HR := Lib.hid hrow
    have hb2 := rx_below HB1.out hx (by omega)
    have HB2 := Lib.hid (hb2.trans (hal.mono hb2.size))
    have HL2 := Lib.hid ((HL1.out.rx hx (by omega)).below hal)
    have HM := Lib.hid (RSt.below hm hal)
    have HX2 := Lib.hid (LB.new w2 [.int .i64 p.1.kind, .int .i64 p.1.num, .string (ba p.1.name), .slice A1 p.1.kids.length c1] 36)
    have hne : w.heap.size ≠ w2.heap.size := by have := (HL1.out.rx hx (by omega)).lt; omega
    clear hr hx hm HC HL1 hrow hb2 hal
    go_wp2_with fail
    generalize w2.alloc (.cells #[.int .i64 p.1.kind, .int .i64 p.1.num, .string (ba p.1.name), .slice A1 p.1.kids.length c1] 36) = W2 at HR HB2 HL2 HM HX2 ⊢
    generalize hx2 : w2.heap.size = xb at HX2 hne ⊢
    clear hx2
    have hnx : p.2.k = 0 → p.2.next l = l.drop p.2.at_ := fun h => RS.next_ok h
    obtain ⟨A0, c0, v0, ⟨q0, q1, q2, q3, q4, q5⟩, _⟩ := HM.out.cells
    have z0 := HL2.out.c 0 _ rfl
    have z1 := HL2.out.c 1 _ rfl
    have z2 := HL2.out.c 2 _ rfl
    have z3 := HL2.out.c 3 _ rfl
    have zf := HL2.out.f
    have zl := HL2.out.lt
    cases hg : (gram fuel0).expr l with
    | out => rw [hg] at hres; exact hres.elim
    | err l' k =>
      rw [hg] at hres
      obtain ⟨hk, hk0, hpos⟩ := hres
      have HF : Hid (parseX s = (none, p.2.pos, p.2.k)) := Lib.hid (by
        unfold parseX readRes
        rw [if_neg (by omega), hok]
        simp only [hg]
        rw [hk, hpos]
        cases l' <;> rfl)
      have e0 : ((p.2.k : Int) == 0) = false := beq_eq_false_iff_ne.2 (by omega)
      have e1 : ((p.2.k : Int) != 0) = true := bne_iff_ne.2 (by omega)
      clear hk hk0 hpos hg hnx
      go_wp2_with fail
      go_quiet (fail)
      rename_i nq
      go_wp2_with fail
      go_region
      all_goals go_wp2
      all_goals rw [HF.out]
      all_goals exact rpx_end (HB2.out.trans ((below_dn0 W2 _).mono HB2.out.size)) ⟨z0, z1, z2, z3⟩ rfl rfl rfl rfl
    | ok x l' =>
      rw [hg] at hres
      obtain ⟨hx1, hk, hn⟩ := hres
      have hdrop : l.drop p.2.at_ = l' := (hnx hk).symm.trans hn
      have hat := HM.out.at_le
      have hlen := HM.out.len
      rw [hk] at q3
      cases l' with
      | cons t l' =>
        have hlt : p.2.at_ < l.length := Nat.lt_of_not_le fun h => by rw [List.drop_eq_nil_of_le h] at hdrop; cases hdrop
        have HF : Hid (parseX s = (none, t.off, 4)) := Lib.hid (by
          unfold parseX readRes
          rw [if_neg (by omega), hok]
          simp only [hg])
        have e3 : decide ((p.2.at_ : Int) < (l.length : Int)) = true := by simp; omega
        have e4 : decide (p.2.at_ < l.length) = true := decide_eq_true hlt
        have hst : p.2.stop l s.length 4 = ⟨p.2.at_, 4, t.off, p.2.sp⟩ := by unfold RS.stop; rw [if_pos hk, hdrop]; rfl
        have HST := Lib.hid hst
        clear hg hnx hx1 hk hn hdrop hst
        go_wp2_with fail
        go_quiet (fail)
        rename_i nq
        clear e3 e4 q0 q1 q2 q3 q4 q5 z0 z1 z2 z3 zf zl
        have HMD := Lib.hid (RSt.below HM.out (below_dn0 W2 nq))
        have HLD := Lib.hid (HL2.out.below (below_dn0 W2 nq))
        have HBD := Lib.hid (HB2.out.trans ((below_dn0 W2 nq).mono HB2.out.size))
        go_wp2_with fail
        refine (rstop_calls HMD.out 4 (by omega)).mono ?_
        rw [HST.out]
        rintro en w3 ⟨rfl, hx3, hm3⟩
        have HB3 := Lib.hid (rx_below HBD.out hx3 (by omega))
        have HL3 := HLD.out.rx hx3 (by omega)
        obtain ⟨A3, c3, v3, ⟨q0, q1, q2, q3, q4, q5⟩, _⟩ := hm3.cells
        have z0 := HL3.c 0 _ rfl
        have z1 := HL3.c 1 _ rfl
        have z2 := HL3.c 2 _ rfl
        have z3 := HL3.c 3 _ rfl
        have zf := HL3.f
        have zl := HL3.lt
        clear hx3 hm3 HL3
        go_wp2_with fail
        go_region
        all_goals go_wp2
        all_goals rw [HF.out]
        all_goals exact rpx_end HB3.out.drew ⟨z0, z1, z2, z3⟩ rfl rfl rfl rfl
      | nil =>
        have hlt : ¬ p.2.at_ < l.length := fun h => by
          rw [List.drop_eq_getElem_cons h] at hdrop
          cases hdrop
        have hsz : sizeE x ≤ 1000000000 := by
          have := (gram_sz fuel0).expr l
          rw [hg] at this
          have h2 := lex_len hs hok
          have : sizeE x + 0 ≤ l.length := this
          omega
        have HSZ := Lib.hid hsz
        have e3 : decide ((p.2.at_ : Int) < (l.length : Int)) = false := by simp; omega
        have e4 : decide (p.2.at_ < l.length) = false := decide_eq_false hlt
        have HP : Hid (parseX s = if 60 < deepE x then (none, 0, 3) else (some x, 0, 0)) := Lib.hid (by
          unfold parseX readRes
          rw [if_neg (by omega), hok]
          simp only [hg])
        subst hx1
        have x0 := HX2.out.c 0 _ rfl
        have x1 := HX2.out.c 1 _ rfl
        have x2 := HX2.out.c 2 _ rfl
        have x3 := HX2.out.c 3 _ rfl
        by_cases hd : 60 < deepE p.1
        · have e6 : decide ((60 : Int) < (deepE p.1 : Int)) = true := by simp; omega
          have HF : Hid (parseX s = (none, 0, 3)) := Lib.hid (by rw [HP.out, if_pos hd])
          clear hg hnx hk hn hdrop hsz hd HP hlt
          go_wp2_with fail
          go_quiet (fail)
          rename_i nq
          clear e3 e4 q0 q1 q2 q4 q5 z0 z1 z2 z3 zf zl
          have HBD := Lib.hid (HB2.out.trans ((below_dn0 W2 nq).mono HB2.out.size))
          go_wp2_with fail
          refine (rdepth_calls (sizeE p.1) p.1 (Nat.le_refl _) HSZ.out (HR.out.keep (w1 := W2.drewN nq) (ok' := fun _ => True) (Nat.le_refl _) fun b hb hl => ⟨rfl, trivial⟩)).mono ?_
          rintro en w4 ⟨rfl, hb4⟩
          have HB4 := Lib.hid (HBD.out.trans (hb4.mono HBD.out.size))
          have h4 := (HL2.out.below (below_dn0 W2 nq)).below hb4
          have g4 := (HX2.out.below (below_dn0 W2 nq)).below hb4
          have HR4 := Lib.hid (HR.out.keep (w1 := w4) (ok' := From (w.heap.size + 1)) hb4.size fun b hb hl => ⟨hb4.block b hl, hb⟩)
          have z0 := h4.c 0 _ rfl
          have z1 := h4.c 1 _ rfl
          have z2 := h4.c 2 _ rfl
          have z3 := h4.c 3 _ rfl
          have zf := h4.f
          have zl := h4.lt
          have k0 := g4.c 0 _ rfl
          have k1 := g4.c 1 _ rfl
          have k2 := g4.c 2 _ rfl
          have k3 := g4.c 3 _ rfl
          clear x0 x1 x2 x3 hb4 h4 g4
          go_wp2_with fail
          rw [HF.out]
          exact rpx_end HB4.out ⟨z0, z1, z2, z3⟩ rfl rfl rfl rfl
        · have e6 : decide ((60 : Int) < (deepE p.1 : Int)) = false := by simp; omega
          have HF : Hid (parseX s = (some p.1, 0, 0)) := Lib.hid (by rw [HP.out, if_neg hd])
          clear hg hnx hk hn hdrop hsz hd HP hlt
          go_wp2_with fail
          go_quiet (fail)
          rename_i nq
          clear e3 e4 q0 q1 q2 q4 q5 z0 z1 z2 z3 zf zl
          have HBD := Lib.hid (HB2.out.trans ((below_dn0 W2 nq).mono HB2.out.size))
          go_wp2_with fail
          refine (rdepth_calls (sizeE p.1) p.1 (Nat.le_refl _) HSZ.out (HR.out.keep (w1 := W2.drewN nq) (ok' := fun _ => True) (Nat.le_refl _) fun b hb hl => ⟨rfl, trivial⟩)).mono ?_
          rintro en w4 ⟨rfl, hb4⟩
          have HB4 := Lib.hid (HBD.out.trans (hb4.mono HBD.out.size))
          have h4 := (HL2.out.below (below_dn0 W2 nq)).below hb4
          have g4 := (HX2.out.below (below_dn0 W2 nq)).below hb4
          have HR4 := Lib.hid (HR.out.keep (w1 := w4) (ok' := From (w.heap.size + 1)) hb4.size fun b hb hl => ⟨hb4.block b hl, hb⟩)
          have z0 := h4.c 0 _ rfl
          have z1 := h4.c 1 _ rfl
          have z2 := h4.c 2 _ rfl
          have z3 := h4.c 3 _ rfl
          have zf := h4.f
          have zl := h4.lt
          have k0 := g4.c 0 _ rfl
          have k1 := g4.c 1 _ rfl
          have k2 := g4.c 2 _ rfl
          have k3 := g4.c 3 _ rfl
          clear x0 x1 x2 x3 hb4 h4 g4
          go_wp2_with fail
          rw [HF.out]
          refine rpx_end HB4.out ⟨z0, z1, z2, z3⟩ rfl rfl rfl ⟨_, rfl, ?_⟩
          exact HR4.out.keep (by simp [World.setCell]) fun b hb hl => ⟨(ext_set4 w4 w.heap.size _ _ _ _).block b hl (by have : w.heap.size + 1 ≤ b := hb; omega), by have : w.heap.size + 1 ≤ b := hb; show w.heap.size ≤ b; omega⟩
end Go.Proofs.YtdijffojppjmfaaDoor
