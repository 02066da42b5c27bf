/- The lexer's iterator, walked. -/
import Derived.RangeFuncNested
import Derived.RangeFuncBound
import Derived.RangeFuncCalls
import Derived.RangeFuncLeaves
import Derived.Shelf.Abstract
import Derived.Shelf.RegionOpen
import Derived.WalkKit
import Derived.OwnWalkIn
import Derived.TacticsInMore
import Derived.LoopNIn
import Derived.LoopIn
import Derived.Test.YtdijffojppjmfaaDoorQg
import Derived.Test.YtdijffojppjmfaaDoorQh
set_option linter.unusedVariables false
set_option linter.unusedSimpArgs false
namespace Go.Proofs.YtdijffojppjmfaaDoor
open Go.RowKit Go.Shelf Bir Go.BW
attribute [local go_sem] Oper.semAt_some
abbrev tokV (t : Tok) : Value := .agg #[.int .i64 t.kind, .string (ba t.text), .int .i64 t.off]
def tokEnc (t : Tok) : Array Value := #[tokV t]
/-- The row that is being made, in box B, owns block k. -/
def owned (W : World) (B k : Nat) : Prop := ∃ v, W.cell? ⟨B, 0, none⟩ = some v ∧ v.ownBlock = some k
/-- What a round keeps: all but box B and the row that it holds. -/
structure LexK (Bn B : Nat) (W W' : World) : Prop where
  bn : W'.heap[Bn]? = W.heap[Bn]?
  size : W.heap.size ≤ W'.heap.size
  same : ∀ k o, W.heap[k]? = some o → o.isCells = true → k ≠ B → ¬ owned W B k → W'.heap[k]? = some o
  own : ∀ k, owned W' B k → k < W.heap.size → owned W B k
  lies : (∀ k, owned W B k → k < W.heap.size) → ∀ k, owned W' B k → k < W'.heap.size
theorem LexK.trans {Bn B : Nat} {X Y Z : World} (h : LexK Bn B X Y) (k : LexK Bn B Y Z) : LexK Bn B X Z := by
  refine ⟨k.bn.trans h.bn, Nat.le_trans h.size k.size, fun i o hi ho hB hn => ?_, fun i hi hlt => ?_, fun hl i hi => ?_⟩
  · have hlt := (Array.getElem?_eq_some_iff.1 hi).1
    exact k.same i o (h.same i o hi ho hB hn) ho hB (fun h2 => hn (h.own i h2 hlt))
  · exact h.own i (k.own i hi (Nat.lt_of_lt_of_le hlt h.size)) hlt
  · exact k.lies (h.lies hl) i hi
theorem LexK.put {Bn B : Nat} {w : World} (hn : Bn < w.heap.size) (hB : B < w.heap.size) (W : World) (l : Nat) (o o' : Obj) (hl : w.heap.size ≤ l) (h : W.heap[l]? = some o) (hc : o.isCells = false) (_ : o.isWalk = false) : LexK Bn B W (W.putObj l o') := by
  have hlt := (Array.getElem?_eq_some_iff.1 h).1
  have hlB : B ≠ l := by omega
  have hcell : (W.putObj l o').cell? ⟨B, 0, none⟩ = W.cell? ⟨B, 0, none⟩ := World.cell?_of_block (World.putObj_heap_other hlB)
  have hown : ∀ k, owned (W.putObj l o') B k ↔ owned W B k := fun k => by unfold owned; rw [hcell]
  refine ⟨World.putObj_heap_other (by omega), by simp, fun k o2 hk ho _ _ => ?_, fun k hk _ => (hown k).1 hk, fun hl k hk => by rw [World.putObj_size]; exact hl k ((hown k).1 hk)⟩
  rw [World.putObj_heap_other (fun e => by subst e; rw [h] at hk; cases hk; rw [hc] at ho; cases ho)]
  exact hk
theorem owned_below {W W' : World} {B k : Nat} (hB : B < W.heap.size) (h : Below W.heap.size W W') (ho : owned W' B k) : owned W B k := by
  obtain ⟨v, h1, h2⟩ := ho
  exact ⟨v, (h.cell (p := ⟨B, 0, none⟩) hB).symm.trans h1, h2⟩
theorem grown_of_below {W W' : World} (h : Below W.heap.size W W') : W.grownBy W' none := ⟨h.os, h.tape, h.output, h.size, fun k hk _ => h.block k hk⟩
set_option maxRecDepth 100000 in
set_option maxHeartbeats 2000000 in
theorem all1_stops (n : Nat) (B Bn : Nat) (s : Str) (hs : s.length ≤ 1000000) (w : World) (hBn : Bn < w.heap.size) (hB : B < w.heap.size) (hc : w.cell? ⟨Bn, 0, none⟩ = some (.string (ba s))) (hbox : w.cell? ⟨B, 0, none⟩ = some (.slice none 0 0)) :
    SeqStopsK Fence.wide n Tryd.prog 126 #[.pointer (some ⟨Bn, 0, none⟩)] tokEnc (LexK Bn B) (fun xs => xs = scan s) (fun pre => pre <+: scan s) (scan s).length w := by
  intro l J Jx W hW hJ hJx hY h0
  have hcW : W.cell? ⟨Bn, 0, none⟩ = some (.string (ba s)) := (hW.cell (p := ⟨Bn, 0, none⟩) (by show Bn < _; omega)).trans hc
  have HOW : Hid (∀ k, ¬ owned W B k) := by
    rintro k ⟨v, h1, h2⟩
    rw [hW.cell (p := ⟨B, 0, none⟩) hB, hbox] at h1
    cases h1
    simp [Value.ownBlock] at h2
  have hWs := hW.size
  have HJ := Lib.hid hJ
  have HJX := Lib.hid hJx
  have HY := Lib.hid hY
  have H0 := Lib.hid h0
  clear hJ hJx hY h0 hc hbox hW
  refine callsIn_of_wp Tryd.func126 rfl trivial ?_ rfl
  simp only [Tryd.ntmps126, List.size_toArray, List.length_cons, List.length_nil, Nat.reduceAdd, Nat.reduceSub, Array.replicate_succ, Array.replicate_zero, List.push_toArray, List.append_toArray, List.nil_append, List.cons_append]
  gi_wp2_with fail
  refine ⟨trivial, (fun h => by cases h), (callsIn_wide.2 (blank_calls s W hs)).mono ?_⟩
  rintro en w1 ⟨rfl, rfl⟩
  gi_wp2_with fail
  gi_loopw [3] (fun p wr => ∃ (pre : List Tok) (k m : Nat), p = .int .i64 k ∧ k ≤ s.length ∧ s.length < m + k ∧ Hid (scan s = pre ++ scanF m k (s.drop k)) ∧ Hid (J pre wr) ∧ Hid (∀ j, owned wr B j → j < wr.heap.size) ∧ wr.cell? ⟨Bn, 0, none⟩ = some (.string (ba s)) ∧ w.heap.size ≤ wr.heap.size) (fun p _ => s.length + 1 - (intOf p).toNat)
  case atStart =>
    exact ⟨[], s.length - (skip false s).length, s.length + 1, rfl, by omega, by omega, by rw [drop_skip]; exact rfl, H0, fun j hj => absurd hj (HOW.out j), hcW, hWs⟩
  case round =>
    obtain ⟨pre, k, m, rfl, hk, hm, HS, HJ0, HO, hcw, hsz⟩ := hrel
    clear hcW HOW H0
    by_cases hlt : k < s.length
    · gi_wp2_with fail
      rw [show (ba s).extract k (List.length s) = ba (s.drop k) from ba_from s k hk]
      refine ⟨trivial, (fun h => by cases h), (callsIn_wide.2 (first_calls (s.drop k) wr (by simp; omega) (by simp; omega))).mono ?_⟩
      rintro en w2 ⟨rfl, hb2⟩
      obtain ⟨c0, r0, hcr⟩ : ∃ c r, s.drop k = c :: r := by
        cases h : s.drop k with
        | nil => have := congrArg List.length h; simp at this; omega
        | cons c r => exact ⟨c, r, rfl⟩
      obtain ⟨m, rfl⟩ : ∃ m', m = m' + 1 := ⟨m - 1, by omega⟩
      cases hf : first (s.drop k) with
      | none =>
        have hv : firstV (s.drop k) = .agg #[.int .i64 0, .string ⟨#[]⟩, .int .i64 0] := by simp [firstV, hf]
        rw [hv]
        have HS2 : Hid (scan s = pre ++ [⟨0, [], k⟩]) := by rw [HS.out, scanF_none (by rw [hcr]; simp) hf]; exact rfl
        clear hv hf
        have HB2 := Lib.hid hb2
        have hz2 := hb2.size
        have HJ3 : Hid (J pre (w2.alloc (.cells #[.int .i64 0, .string ⟨#[]⟩, .int .i64 k] 49))) := HJ.out _ _ _ none HJ0.out (grown_of_below (hb2.trans ((Below.refl _ w2).alloc hz2 _))) (fun r e => by cases e)
        have hlen : pre.length < (scan s).length := by rw [HS2.out]; simp
        obtain ⟨fn, tmps, assign, body, hy0, hR⟩ := HY.out pre ⟨0, [], k⟩ _ HJ3.out hlen
        have hy : (Instr.yield l #[.agg #[.int .i64 0, .string ⟨#[]⟩, .int .i64 k]]).run Tryd.prog (w2.alloc (.cells #[.int .i64 0, .string ⟨#[]⟩, .int .i64 k] 49)) = .ok (.round l fn tmps assign body) (w2.alloc (.cells #[.int .i64 0, .string ⟨#[]⟩, .int .i64 k] 49)) := hy0
        clear hy0
        have hself := World.alloc_heap_new w2 (.cells #[.int .i64 0, .string ⟨#[]⟩, .int .i64 k] 49)
        have hno : ¬ owned (w2.alloc (.cells #[.int .i64 0, .string ⟨#[]⟩, .int .i64 k] 49)) B w2.heap.size := fun ho => by
          have h1 := owned_below (by omega) ((Below.refl _ w2).alloc (Nat.le_refl _) _) ho
          have h2 := owned_below (by omega) hb2 h1
          have := HO.out _ h2
          omega
        have hcw2 : (w2.alloc (.cells #[.int .i64 0, .string ⟨#[]⟩, .int .i64 k] 49)).cell? ⟨Bn, 0, none⟩ = some (.string (ba s)) := ((hb2.trans ((Below.refl _ w2).alloc hz2 _)).cell (p := ⟨Bn, 0, none⟩) (by show Bn < _; omega)).trans hcw
        have HO3 : Hid (∀ j, owned (w2.alloc (.cells #[.int .i64 0, .string ⟨#[]⟩, .int .i64 k] 49)) B j → j < (w2.alloc (.cells #[.int .i64 0, .string ⟨#[]⟩, .int .i64 k] 49)).heap.size) := fun j hj => by
          have h1 := owned_below (by omega) ((Below.refl _ w2).alloc (Nat.le_refl _) _) hj
          have h2 := owned_below (by omega) hb2 h1
          have := HO.out _ h2
          simp
          omega
        have HNO := Lib.hid hno
        have HSELF := Lib.hid hself
        have HCW2 := Lib.hid hcw2
        clear hb2 hno hself hcw2 hlen
        gi_wp2_with fail
        refine ⟨(fun h => by cases h), hR.mono ?_⟩
        rintro e W4 (⟨rfl, hJ4, hk4⟩ | ⟨rfl, hJx4⟩)
        · have hblk := hk4.same _ _ HSELF.out rfl (by omega) HNO.out
          have c0 : W4.cell? ⟨w2.heap.size, 0, none⟩ = some (.int .i64 0) := by simp [World.cell?, hblk]
          have HJ4 := Lib.hid hJ4
          clear hJ4 hk4 hblk
          gi_wp2
          refine bodyPost_ret (results_none rfl _ _ _) rfl ?_
          exact ⟨⟨_, rfl⟩, .inl ⟨_, HS2.out.symm, HJ4.out⟩⟩
        · have HJ4 := Lib.hid hJx4
          clear hJx4
          gi_wp2
          refine bodyPost_ret (results_none rfl _ _ _) rfl ?_
          exact ⟨⟨_, rfl⟩, .inr ⟨_, by rw [HS2.out]; exact List.prefix_refl _, HJ4.out⟩⟩
      | some p =>
        obtain ⟨kk, t⟩ := p
        have hv : firstV (s.drop k) = .agg #[.int .i64 kk, .string (ba t), .int .i64 0] := by simp [firstV, hf]
        rw [hv]
        obtain ⟨hpre, hne, hkk, _⟩ := first_spec hf
        have htl : t.length ≤ s.length - k := by have := hpre.length_le; rwa [List.length_drop] at this
        have htp : 0 < t.length := List.length_pos_iff.2 hne
        have hdd : (s.drop k).drop t.length = s.drop (k + t.length) := by rw [List.drop_drop]
        have hsk := skip_le false (s.drop (k + t.length))
        have hds := drop_skip false (s.drop (k + t.length))
        rw [List.length_drop] at hsk hds
        rw [List.drop_drop] at hds
        generalize hq : (skip false (s.drop (k + t.length))).length = q at hsk hds
        have HS2 : Hid (scan s = pre ++ ⟨kk, t, k⟩ :: scanF m (k + (s.length - k - q)) (skip false (s.drop (k + t.length)))) := by
          rw [HS.out, scanF_some (by rw [hcr]; simp) hf]
          simp only [hdd, hq, List.length_drop, Hid]
        have e0 : ((kk : Int) == 0) = false := beq_eq_false_iff_ne.2 (by omega)
        have HDS := Lib.hid hds
        have HQ := Lib.hid hq
        clear hv hf hpre hne hkk hds hdd
        have HB2 := Lib.hid hb2
        have hz2 := hb2.size
        have HJ3 : Hid (J pre (w2.alloc (.cells #[.int .i64 kk, .string (ba t), .int .i64 k] 49))) := HJ.out _ _ _ none HJ0.out (grown_of_below (hb2.trans ((Below.refl _ w2).alloc hz2 _))) (fun r e => by cases e)
        have hlen : pre.length < (scan s).length := by rw [HS2.out]; simp
        obtain ⟨fn, tmps, assign, body, hy0, hR⟩ := HY.out pre ⟨kk, t, k⟩ _ HJ3.out hlen
        have hy : (Instr.yield l #[.agg #[.int .i64 kk, .string (ba t), .int .i64 k]]).run Tryd.prog (w2.alloc (.cells #[.int .i64 kk, .string (ba t), .int .i64 k] 49)) = .ok (.round l fn tmps assign body) (w2.alloc (.cells #[.int .i64 kk, .string (ba t), .int .i64 k] 49)) := hy0
        clear hy0
        have hself := World.alloc_heap_new w2 (.cells #[.int .i64 kk, .string (ba t), .int .i64 k] 49)
        have hno : ¬ owned (w2.alloc (.cells #[.int .i64 kk, .string (ba t), .int .i64 k] 49)) B w2.heap.size := fun ho => by
          have h1 := owned_below (by omega) ((Below.refl _ w2).alloc (Nat.le_refl _) _) ho
          have h2 := owned_below (by omega) hb2 h1
          have := HO.out _ h2
          omega
        have hcw2 : (w2.alloc (.cells #[.int .i64 kk, .string (ba t), .int .i64 k] 49)).cell? ⟨Bn, 0, none⟩ = some (.string (ba s)) := ((hb2.trans ((Below.refl _ w2).alloc hz2 _)).cell (p := ⟨Bn, 0, none⟩) (by show Bn < _; omega)).trans hcw
        have HO3 : Hid (∀ j, owned (w2.alloc (.cells #[.int .i64 kk, .string (ba t), .int .i64 k] 49)) B j → j < (w2.alloc (.cells #[.int .i64 kk, .string (ba t), .int .i64 k] 49)).heap.size) := fun j hj => by
          have h1 := owned_below (by omega) ((Below.refl _ w2).alloc (Nat.le_refl _) _) hj
          have h2 := owned_below (by omega) hb2 h1
          have := HO.out _ h2
          simp
          omega
        have HNO := Lib.hid hno
        have HSELF := Lib.hid hself
        have HCW2 := Lib.hid hcw2
        clear hb2 hno hself hcw2 hlen
        gi_wp2_with fail
        refine ⟨(fun h => by cases h), hR.mono ?_⟩
        rintro e W4 (⟨rfl, hJ4, hk4⟩ | ⟨rfl, hJx4⟩)
        · have hblk := hk4.same _ _ HSELF.out rfl (by omega) HNO.out
          have c0 : W4.cell? ⟨w2.heap.size, 0, none⟩ = some (.int .i64 kk) := by simp [World.cell?, hblk]
          have c1 : W4.cell? ⟨w2.heap.size, 1, none⟩ = some (.string (ba t)) := by simp [World.cell?, hblk]
          have hcw4 : W4.cell? ⟨Bn, 0, none⟩ = some (.string (ba s)) := cell_same hk4.bn HCW2.out
          have HO4 := Lib.hid (hk4.lies HO3.out)
          have hz4 := hk4.size
          rw [World.size_alloc] at hz4
          have HJ4 := Lib.hid hJ4
          have HI := IntWalk.i64_in ((k : Int) + t.length) (by omega)
          have EX := ba_from s (k + t.length) (by omega)
          have HEX := Lib.hid EX
          have hkt : k + t.length ≤ s.length := by omega
          clear hJ4 hk4 hblk EX hcw
          gi_wp2_with fail
          rw [show (ba s).extract (k + t.length) (List.length s) = ba (s.drop (k + t.length)) from HEX.out]
          refine ⟨trivial, (fun h => by cases h), (callsIn_wide.2 (blank_calls (s.drop (k + t.length)) W4 (by simp; omega))).mono ?_⟩
          rintro en w5 ⟨rfl, rfl⟩
          rw [HQ.out, List.length_drop]
          have HI2 := IntWalk.i64_in ((k : Int) + t.length + ((s.length - (k + t.length) - q : Nat) : Int)) (by omega)
          gi_wp2_with fail
          go_roundw
          case rel =>
            refine ⟨pre ++ [⟨kk, t, k⟩], k + t.length + (s.length - (k + t.length) - q), m, by go_num, by omega, by omega, ?_, HJ4, HO4, hcw4, by omega⟩
            rw [HDS.out, HS2.out, show k + t.length + (s.length - (k + t.length) - q) = k + (s.length - k - q) from by omega, List.append_assoc]
            exact rfl
          case measure => simp [intOf]; omega
        · have HJ4 := Lib.hid hJx4
          clear hJx4
          gi_wp2
          refine bodyPost_ret (results_none rfl _ _ _) rfl ?_
          exact ⟨⟨_, rfl⟩, .inr ⟨_, by rw [HS2.out]; exact ⟨_, List.append_assoc _ _ _⟩, HJ4.out⟩⟩
    · have hks : k = s.length := by omega
      have HS2 : Hid (scan s = pre) := by
        rw [HS.out, hks, List.drop_length]
        cases m <;> simp [scanF, Hid]
      clear HS
      gi_wp2
      go_end0
      exact ⟨⟨_, rfl⟩, .inl ⟨pre, HS2.out.symm, HJ0.out⟩⟩
end Go.Proofs.YtdijffojppjmfaaDoor
