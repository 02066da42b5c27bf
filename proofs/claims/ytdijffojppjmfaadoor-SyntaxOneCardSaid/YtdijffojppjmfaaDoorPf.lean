/- The parser's operators of two sides, walked: binary. -/
import Derived.Test.YtdijffojppjmfaaDoorPc
import Derived.Test.YtdijffojppjmfaaDoorPl
import Derived.Test.YtdijffojppjmfaaDoorWLast
import Derived.Deep.LoopGhost
import Derived.IntWalk
set_option linter.unusedVariables false
namespace Go.Proofs.YtdijffojppjmfaaDoor
open Go.RowKit Bir Go.BW Go.Proofs.YtdijffojppjmfaaDoorW.PrintLast

/-- A move, a number, an address: taken first wherever it may come up. -/
theorem last_pure {P : Program} {ops : Array Oper} {Q : Exit → Act → World → Prop} {md : Region.Mode} {S : World → Prop} {ds : List Nat} {i : Nat} {oi : Oper} {v : Value} {fuel : Nat} {listed : Array Bool} {a : Act} {w : World} (hi : ops[i]? = some oi)
    (hs : Region.noSelect ops = true) (hf : Region.free md ops listed i = true) (hr : (Region.ready md ops listed).contains i = true) (hQ : ∀ c a w, Q (.panic c) (a.put oi.dst v) w → Q (.panic c) a w) (hy : Yields P ops oi v a)
    (h : wpAnyLast P md ops Q S ds fuel (listed.setIfInBounds i true) (a.put oi.dst v) w) : wpAnyLast P md ops Q S ds (fuel + 1) listed a w :=
  wpAnyLast_any hi (Region.noSelect_spec hs) hQ fuel listed a w (Region.free_spec hi hf) (by simpa using hr) hy h

section
variable {w : World} {pb tb e n : Nat} {l : List Tok}
theorem bin_top (ih : PAll n) (h : PSt w pb tb e l) (lvl : Nat) (v : Int) (hv : v = lvl) (hl : 10 < lvl) (hne : (gram (n + 1)).bin lvl l ≠ .out) :
    Calls Tryd.prog 83 #[pp pb, .int .i64 v] w (EPost w pb tb e ((gram (n + 1)).bin lvl l)) := by
  have hdef : (gram (n + 1)).bin lvl l = (gram n).un l := by show binF (gram n) lvl l = _; rw [binF, if_pos hl]
  rw [hdef] at hne ⊢
  have hpb := h.pb_lt
  have hp0 : w.heap.size ≠ pb := by omega
  have e0 : decide ((10 : Int) < v) = true := decide_eq_true (by omega)
  have HC : Hid (Calls Tryd.prog 113 #[pp pb] (w.alloc (.cells #[.int .i64 0, .int .i64 0, .string ⟨#[]⟩, .slice none 0 0] 36)) (EPost (w.alloc (.cells #[.int .i64 0, .int .i64 0, .string ⟨#[]⟩, .slice none 0 0] 36)) pb tb e ((gram n).un l))) := ih.un (h.alloc _) hne
  generalize (gram n).un l = r at hne HC ⊢
  clear ih hdef hv hl
  rcases r with _ | ⟨l2, k⟩ | ⟨y, l2⟩
  · exact absurd rfl hne
  · clear hne
    go_enter Tryd.func83, Tryd.ntmps83
    go_wp2_with fail
    refine (EPost.bad HC.out rfl).mono ?_
    rintro en w2 ⟨rfl, hx2⟩
    exact ⟨rfl, rfl, ((Ext.refl _ w).alloc _).trans' hx2⟩
  · clear hne
    go_enter Tryd.func83, Tryd.ntmps83
    go_wp2_with fail
    refine (EPost.got HC.out rfl).mono ?_
    rintro en w2 ⟨kv, rfl, hr2, hx2, h2⟩
    obtain ⟨A2, c2, rfl, _⟩ := hr2.slice
    obtain ⟨s0, s1, s2, s3⟩ := (cells4.new w _ _ _ _ 36).ext hx2 hp0
    have sf := frz_ext (frozen_new w _ 36) hx2 (by simp) hp0
    rw [World.size_alloc] at hr2
    have HX := Lib.hid hx2
    have HR2 := Lib.hid hr2
    have H2 := Lib.hid h2
    clear hr2 h2 hx2
    go_wp2_with fail
    exact epost_fin rfl rfl HX.out H2.out HR2.out h

set_option maxHeartbeats 2000000 in
theorem bin_low (hn9 : n ≤ 1000000000) (ih : ∀ m, m < n + 1 → PAll m) (h : PSt w pb tb e l) (lvl : Nat) (v : Int) (hv : v = lvl) (hl1 : 1 ≤ lvl) (hl : lvl ≤ 10) (hne : (gram (n + 1)).bin lvl l ≠ .out) :
    Calls Tryd.prog 83 #[pp pb, .int .i64 v] w (EPost w pb tb e ((gram (n + 1)).bin lvl l)) := by
  have hdef : (gram (n + 1)).bin lvl l = ((gram n).bin (lvl + 1) l).bind fun x l1 => (gram n).loop lvl x l1 := by show binF (gram n) lvl l = _; rw [binF, if_neg (by omega)]
  rw [hdef] at hne ⊢
  generalize hr : (((gram n).bin (lvl + 1) l).bind fun x l1 => (gram n).loop lvl x l1) = r at hne ⊢
  have HRR := Lib.hid hr
  clear hr
  have hpb := h.pb_lt
  have htb := h.tb_lt
  have hp0 : w.heap.size ≠ pb := by omega
  have b0 : (1 : Int) ≤ v := by omega
  have b1 : v ≤ (10 : Int) := by omega
  have e0 : decide ((10 : Int) < v) = false := decide_eq_false (by omega)
  have HI := Lib.hid ih
  have HN := Lib.hid hne
  have HV := Lib.hid hv
  clear ih hne hdef hv
  go_enter Tryd.func83, Tryd.ntmps83
  go_wp2_with fail
  rcases hy : (gram n).bin (lvl + 1) l with _ | ⟨l2, k⟩ | ⟨x0, l2⟩
  · exact absurd (by rw [← HRR.out, hy]; rfl) HN.out
  · have HF : Hid (r = .err l2 k) := by rw [← HRR.out, hy]; rfl
    have HY := Lib.hid hy
    clear hy
    refine (EPost.bad ((HI.out n (by omega)).bin (lvl + 1) (v + 1) (by have := HV.out; omega) (by omega) (by omega) (h.alloc _) (by rw [HY.out]; simp)) HY.out).mono ?_
    rintro en w2 ⟨rfl, hx2⟩
    exact ⟨rfl, by rw [HF.out]; exact ⟨rfl, ((Ext.refl _ w).alloc _).trans' hx2⟩⟩
  · have HR : Hid ((gram n).loop lvl x0 l2 = r) := by have := HRR.out; rw [hy] at this; exact this
    have HY := Lib.hid hy
    clear hy HRR
    refine (EPost.got ((HI.out n (by omega)).bin (lvl + 1) (v + 1) (by have := HV.out; omega) (by omega) (by omega) (h.alloc _) (by rw [HY.out]; simp)) HY.out).mono ?_
    rintro en w1 ⟨kv, rfl, hr1, hx1, h1⟩
    obtain ⟨A1, c1, rfl, _⟩ := hr1.slice
    have hz1 : w.heap.size < w1.heap.size := by have := hx1.size; simp at this; omega
    have hw1 : w1.heap.size ≠ pb := by omega
    rw [World.size_alloc] at hr1
    have HR1 := Lib.hid hr1
    have HX1 := Lib.hid hx1
    have H1 := Lib.hid h1
    clear hr1 hx1 h1 HY
    go_wp2_with fail
    go_loopg [] n (fun gk wr => ∃ (x : Ex) (l' : List Tok) (kv : Value), cells4 wr w1.heap.size (.int .i64 x.kind) (.int .i64 x.num) (.string (ba x.name)) kv ∧ (∀ o, wr.frozen? ⟨w1.heap.size, o, none⟩ = false) ∧ ERow wr (fun b => w.heap.size + 1 ≤ b ∧ b ≠ w1.heap.size) kv x.kids ∧ PSt wr pb tb e l' ∧
      Ext (· = pb) (w.alloc (.cells #[.int .i64 0, .int .i64 0, .string ⟨#[]⟩, .slice none 0 0] 36)) wr ∧ Hid ((gram gk).loop lvl x l' = r) ∧ gk ≤ n ∧ w1.heap.size < wr.heap.size)
    case atStart =>
      refine ⟨x0, l2, .slice A1 x0.kids.length c1, cells4.new _ _ _ _ _ _, frozen_new _ _ _, ?_, H1.out.alloc _, HX1.out.alloc _, HR, Nat.le_refl _, by simp⟩
      exact HR1.out.keep (by simp) fun b hb hlt => ⟨Below.heap_alloc _ _ _ hlt, hb, by omega⟩
    case round =>
      obtain ⟨x, l', kv, ⟨c40, c41, c42, c43⟩, cf, hrow, hst, hx, hg, hgk, hsz⟩ := hrel
      obtain ⟨A, c, rfl, _⟩ := hrow.slice
      have HX0 := Lib.hid hx
      have HROW0 := Lib.hid hrow
      have HFZ0 := Lib.hid cf
      have hst0 := hst
      obtain ⟨d00, d01, d02, d03⟩ : cells4 wr w1.heap.size (.int .i64 x.kind) (.int .i64 x.num) (.string (ba x.name)) (.slice A x.kids.length c) := ⟨c40, c41, c42, c43⟩
      have hsz0 := hsz
      clear hx hrow cf hst c40 c41 c42 c43 hsz
      cases gk with
      | zero => exact absurd hg.out.symm HN.out
      | succ m =>
        cases l' with
        | nil =>
          have HF : Hid (r = .ok x []) := hg.out.symm
          clear hg
          go_wp2_with fail
          refine (next_nil hst0).mono ?_
          rintro en w2 ⟨rfl, hb2⟩
          have hst2 := hst0.below hb2
          have HX2 := Lib.hid (HX0.out.below hb2)
          obtain ⟨d20, d21, d22, d23⟩ := cells4.ext ⟨d00, d01, d02, d03⟩ (Ext.of_below hb2 (fun _ => False)) id
          have HROW2 := Lib.hid (HROW0.out.keep (ok' := fun b => w.heap.size + 1 ≤ b ∧ b ≠ w1.heap.size) hb2.size (fun b hb' hlt => ⟨hb2.block b hlt, hb'⟩))
          have HFZ2 := Lib.hid (frz_ext HFZ0.out (Ext.of_below hb2 (fun _ => False)) (by omega) id)
          have hsz2 : w1.heap.size < w2.heap.size := by have := hb2.size; omega
          clear hst0 HX0 d00 d01 d02 d03 HROW0 HFZ0 hsz0 hb2
          obtain ⟨s0, s1, s2, s3⟩ := (cells4.new w _ _ _ _ 36).ext HX2.out hp0
          have sf := frz_ext (frozen_new w _ 36) HX2.out (by simp) hp0
          have HS := Lib.hid hst2
          clear hst2
          go_wp2_with fail
          rw [HF.out]
          exact epost_fin rfl rfl HX2.out HS.out (HROW2.out.keep (ok' := From (w.heap.size + 1)) (Nat.le_refl _) fun b hb _ => ⟨rfl, hb.1⟩) h
        | cons t l'' =>
          have hloop : (if t.kind = 4 ∧ level t.text = lvl then ((gram m).bin (lvl + 1) l'').bind fun y l1 => (gram m).loop lvl (.mk 6 0 t.text [x, y]) l1 else .ok x (t :: l'')) = r := hg.out
          by_cases hk : t.kind = 4
          · have e4 : ((t.kind : Int) == 4) = true := by rw [hk]; rfl
            by_cases hlv : level t.text = lvl
            · have e5 : (((level t.text : Nat) : Int) == v) = true := by rw [beq_iff_eq]; have := HV.out; omega
              rw [if_pos ⟨hk, hlv⟩] at hloop
              have HL := Lib.hid hloop
              have his : is t.text (t :: l'') = true := by simp [Bir.is, hk]
              clear hloop hg hk hlv
              go_wp2_with fail
              refine (next_cons hst0).mono ?_
              rintro en w2 ⟨rfl, hb2⟩
              have hst2 := hst0.below hb2
              have HX2 := Lib.hid (HX0.out.below hb2)
              obtain ⟨d20, d21, d22, d23⟩ := cells4.ext ⟨d00, d01, d02, d03⟩ (Ext.of_below hb2 (fun _ => False)) id
              have HROW2 := Lib.hid (HROW0.out.keep (ok' := fun b => w.heap.size + 1 ≤ b ∧ b ≠ w1.heap.size) hb2.size (fun b hb' hlt => ⟨hb2.block b hlt, hb'⟩))
              have HFZ2 := Lib.hid (frz_ext HFZ0.out (Ext.of_below hb2 (fun _ => False)) (by omega) id)
              have hsz2 : w1.heap.size < w2.heap.size := by have := hb2.size; omega
              clear hst0 HX0 d00 d01 d02 d03 HROW0 HFZ0 hsz0 hb2
              go_wp2_with fail
              refine (next_cons hst2).mono ?_
              rintro en w3 ⟨rfl, hb3⟩
              have hst3 := hst2.below hb3
              have HX3 := Lib.hid (HX2.out.below hb3)
              obtain ⟨d30, d31, d32, d33⟩ := cells4.ext ⟨d20, d21, d22, d23⟩ (Ext.of_below hb3 (fun _ => False)) id
              have HROW3 := Lib.hid (HROW2.out.keep (ok' := fun b => w.heap.size + 1 ≤ b ∧ b ≠ w1.heap.size) hb3.size (fun b hb' hlt => ⟨hb3.block b hlt, hb'⟩))
              have HFZ3 := Lib.hid (frz_ext HFZ2.out (Ext.of_below hb3 (fun _ => False)) (by omega) id)
              have hsz3 : w1.heap.size < w3.heap.size := by have := hb3.size; omega
              clear hst2 HX2 d20 d21 d22 d23 HROW2 HFZ2 hsz2 hb3
              go_wp2_with fail
              refine (level_calls t.text pb w3 hst3.lev).mono ?_
              rintro en w3' ⟨rfl, rfl⟩
              go_wp2_with fail
              refine (next_cons hst3).mono ?_
              rintro en w4 ⟨rfl, hb4⟩
              have hst4 := hst3.below hb4
              have HX4 := Lib.hid (HX3.out.below hb4)
              obtain ⟨d40, d41, d42, d43⟩ := cells4.ext ⟨d30, d31, d32, d33⟩ (Ext.of_below hb4 (fun _ => False)) id
              have HROW4 := Lib.hid (HROW3.out.keep (ok' := fun b => w.heap.size + 1 ≤ b ∧ b ≠ w1.heap.size) hb4.size (fun b hb' hlt => ⟨hb4.block b hlt, hb'⟩))
              have HFZ4 := Lib.hid (frz_ext HFZ3.out (Ext.of_below hb4 (fun _ => False)) (by omega) id)
              have hsz4 : w1.heap.size < w4.heap.size := by have := hb4.size; omega
              clear hst3 HX3 d30 d31 d32 d33 HROW3 HFZ3 hsz3 hb4
              go_wp2_with fail
              refine (must_yes hst4 t.text his).mono ?_
              rintro en w5 ⟨rfl, hx5, hst5⟩
              have HX5 := Lib.hid (HX4.out.trans' hx5)
              obtain ⟨d50, d51, d52, d53⟩ := cells4.ext ⟨d40, d41, d42, d43⟩ hx5 hw1
              have HROW5 := Lib.hid (HROW4.out.keep (ok' := fun b => w.heap.size + 1 ≤ b ∧ b ≠ w1.heap.size) hx5.size (fun b hb' hlt => ⟨hx5.block b hlt (fun e => by have := hb'.1; omega), hb'⟩))
              have HFZ5 := Lib.hid (frz_ext HFZ4.out hx5 (by omega) hw1)
              have hsz5 : w1.heap.size < w5.heap.size := by have := hx5.size; omega
              clear hst4 HX4 d40 d41 d42 d43 HROW4 HFZ4 hsz4 hx5
              go_wp2_with fail
              rcases hy : (gram m).bin (lvl + 1) l'' with _ | ⟨l2, k⟩ | ⟨y, l2⟩
              · exact absurd (by rw [← HL.out, hy]; rfl) HN.out
              · have HF : Hid (r = .err l2 k) := by rw [← HL.out, hy]; rfl
                have HY := Lib.hid hy
                clear hy
                refine wp_region_last_drew (S := fun w' => cells4 w' w1.heap.size (.int .i64 x.kind) (.int .i64 x.num) (.string (ba x.name)) (.slice A x.kids.length c)) (ds := [6, 7, 8]) (by kernel_rfl) ⟨d50, d51, d52, d53⟩ (fun hHeld => ?_)
                refine last_pure (i := 0) (v := .string (ba t.text)) rfl (by kernel_rfl) (by kernel_rfl) (by kernel_rfl) (fun _ _ _ h => h) (Or.inl ⟨by rfl, ?_⟩) ?_
                · intro w'
                  go_simp
                (try simp only [Act.put, List.setIfInBounds_toArray, List.set_cons_zero, List.set_cons_succ])
                refine wpAnyLast_take (i := 1) (v := .agg #[.int .i64 x.kind, .int .i64 x.num, .string (ba x.name), .slice A x.kids.length c]) rfl (by kernel_rfl) (by kernel_rfl) (by kernel_rfl) (by kernel_rfl) (by kernel_rfl) (fun _ _ _ h => h) (Or.inl ⟨by rfl, ?_⟩) hHeld ?_
                · rintro w' ⟨a0, a1, a2, a3⟩
                  go_simp
                (try simp only [Act.put, List.setIfInBounds_toArray, List.set_cons_zero, List.set_cons_succ])
                refine last_pure (i := 2) (v := pp pb) rfl (by kernel_rfl) (by kernel_rfl) (by kernel_rfl) (fun _ _ _ h => h) (Or.inl ⟨by rfl, ?_⟩) ?_
                · intro w'
                  go_simp
                (try simp only [Act.put, List.setIfInBounds_toArray, List.set_cons_zero, List.set_cons_succ])
                refine last_pure (i := 3) (v := .int .i64 v) rfl (by kernel_rfl) (by kernel_rfl) (by kernel_rfl) (fun _ _ _ h => h) (Or.inl ⟨by rfl, ?_⟩) ?_
                · intro w'
                  go_simp
                (try simp only [Act.put, List.setIfInBounds_toArray, List.set_cons_zero, List.set_cons_succ])
                refine last_pure (i := 4) (v := .int .i64 (v + 1)) rfl (by kernel_rfl) (by kernel_rfl) (by kernel_rfl) (fun _ _ _ h => h) (Or.inl ⟨by rfl, ?_⟩) ?_
                · intro w'
                  go_simp
                  exact IntWalk.i64_in _ (by omega)
                (try simp only [Act.put, List.setIfInBounds_toArray, List.set_cons_zero, List.set_cons_succ])
                refine wpAnyLast_ready (rs := [5]) (by kernel_rfl) (by simp) ?_
                refine AllReadyL.cons rfl (by decide) (fun K hK => ?_) AllReadyL.nil
                go_simp
                refine (EPost.bad ((HI.out m (by omega)).bin (lvl + 1) (v + 1) (by have := HV.out; omega) (by omega) (by omega) hst5.drew (by show (gram m).bin (lvl + 1) l'' ≠ .out; rw [HY.out]; simp)) HY.out).mono ?_
                rintro en w6 ⟨rfl, hx6⟩
                exact ⟨rfl, by rw [HF.out]; exact ⟨rfl, ((Ext.refl _ w).alloc _).trans' (HX5.out.drew.trans' hx6)⟩⟩
              · have HF : Hid ((gram m).loop lvl (.mk 6 0 t.text [x, y]) l2 = r) := by have := HL.out; rw [hy] at this; exact this
                have HY := Lib.hid hy
                clear hy
                refine wp_region_last_drew (S := fun w' => cells4 w' w1.heap.size (.int .i64 x.kind) (.int .i64 x.num) (.string (ba x.name)) (.slice A x.kids.length c)) (ds := [6, 7, 8]) (by kernel_rfl) ⟨d50, d51, d52, d53⟩ (fun hHeld => ?_)
                refine last_pure (i := 0) (v := .string (ba t.text)) rfl (by kernel_rfl) (by kernel_rfl) (by kernel_rfl) (fun _ _ _ h => h) (Or.inl ⟨by rfl, ?_⟩) ?_
                · intro w'
                  go_simp
                (try simp only [Act.put, List.setIfInBounds_toArray, List.set_cons_zero, List.set_cons_succ])
                refine wpAnyLast_take (i := 1) (v := .agg #[.int .i64 x.kind, .int .i64 x.num, .string (ba x.name), .slice A x.kids.length c]) rfl (by kernel_rfl) (by kernel_rfl) (by kernel_rfl) (by kernel_rfl) (by kernel_rfl) (fun _ _ _ h => h) (Or.inl ⟨by rfl, ?_⟩) hHeld ?_
                · rintro w' ⟨a0, a1, a2, a3⟩
                  go_simp
                (try simp only [Act.put, List.setIfInBounds_toArray, List.set_cons_zero, List.set_cons_succ])
                refine last_pure (i := 2) (v := pp pb) rfl (by kernel_rfl) (by kernel_rfl) (by kernel_rfl) (fun _ _ _ h => h) (Or.inl ⟨by rfl, ?_⟩) ?_
                · intro w'
                  go_simp
                (try simp only [Act.put, List.setIfInBounds_toArray, List.set_cons_zero, List.set_cons_succ])
                refine last_pure (i := 3) (v := .int .i64 v) rfl (by kernel_rfl) (by kernel_rfl) (by kernel_rfl) (fun _ _ _ h => h) (Or.inl ⟨by rfl, ?_⟩) ?_
                · intro w'
                  go_simp
                (try simp only [Act.put, List.setIfInBounds_toArray, List.set_cons_zero, List.set_cons_succ])
                refine last_pure (i := 4) (v := .int .i64 (v + 1)) rfl (by kernel_rfl) (by kernel_rfl) (by kernel_rfl) (fun _ _ _ h => h) (Or.inl ⟨by rfl, ?_⟩) ?_
                · intro w'
                  go_simp
                  exact IntWalk.i64_in _ (by omega)
                (try simp only [Act.put, List.setIfInBounds_toArray, List.set_cons_zero, List.set_cons_succ])
                refine wpAnyLast_ready (rs := [5]) (by kernel_rfl) (by simp) ?_
                refine AllReadyL.cons rfl (by decide) (fun K hK => ?_) AllReadyL.nil
                go_simp
                refine (EPost.got ((HI.out m (by omega)).bin (lvl + 1) (v + 1) (by have := HV.out; omega) (by omega) (by omega) hst5.drew (by show (gram m).bin (lvl + 1) l'' ≠ .out; rw [HY.out]; simp)) HY.out).mono ?_
                rintro en w6 ⟨kv, rfl, hr6, hx6, hst6⟩
                obtain ⟨A6, c6, rfl, _⟩ := hr6.slice
                obtain ⟨d60, d61, d62, d63⟩ := cells4.ext (w := w5.drew) ⟨d50, d51, d52, d53⟩ hx6 hw1
                have hfz6 := frz_ext (w := w5.drew) HFZ5.out hx6 hsz5 hw1
                have hsz6 : w1.heap.size < w6.heap.size := Nat.lt_of_lt_of_le hsz5 hx6.size
                refine hK.out _ _ ⟨d60, d61, d62, d63⟩ (fun _ => ?_)
                (try simp only [Act.put, List.setIfInBounds_toArray, List.set_cons_zero, List.set_cons_succ])
                refine wpAnyLast_ready (rs := [6]) (by kernel_rfl) (by simp) ?_
                refine AllReadyL.cons_last rfl (by decide) (fun K6 hK6 => ?_) AllReadyL.nil
                go_simp
                refine hK6.out _ _ ?_
                (try simp only [Act.put, List.setIfInBounds_toArray, List.set_cons_zero, List.set_cons_succ])
                refine wpAnyLast_ready (rs := [7]) (by kernel_rfl) (by simp) ?_
                refine AllReadyL.cons_last rfl (by decide) (fun K7 hK7 => ?_) AllReadyL.nil
                go_simp
                refine hK7.out _ _ ?_
                (try simp only [Act.put, List.setIfInBounds_toArray, List.set_cons_zero, List.set_cons_succ])
                refine wpAnyLast_ready (rs := [8]) (by kernel_rfl) (by simp) ?_
                refine AllReadyL.cons_last rfl (by decide) (fun K8 hK8 => ?_) AllReadyL.nil
                go_simp
                refine hK8.out _ _ ?_
                refine wpAnyLast_done (by kernel_rfl) ?_ _
                (try simp only [Act.put, List.setIfInBounds_toArray, List.set_cons_zero, List.set_cons_succ])
                go_wp2_with fail
                go_roundg m
                case measure => omega
                case rel =>
                  have hS4 := ext_set4 w6 w1.heap.size (.int .i64 6) (.int .i64 0) (.string (ba t.text)) (.slice (some ⟨w6.heap.size, 0, none⟩) 2 2)
                  have hW : Ext (fun b => b = w1.heap.size) w6 ((set4 w6 w1.heap.size (.int .i64 6) (.int .i64 0) (.string (ba t.text)) (.slice (some ⟨w6.heap.size, 0, none⟩) 2 2)).alloc (.cells #[.int .i64 x.kind, .int .i64 x.num, .string (ba x.name), .slice A x.kids.length c, .int .i64 y.kind, .int .i64 y.num, .string (ba y.name), .slice A6 y.kids.length c6] 36)) := hS4.alloc _
                  have hz6 : w5.heap.size ≤ w6.heap.size := hx6.size
                  refine ⟨.mk 6 0 t.text [x, y], l2, .slice (some ⟨w6.heap.size, 0, none⟩) 2 2, cells4.ext (set4_cells _ _ _ _ d60 d61 d62 d63) ((Ext.refl (fun _ => False) _).alloc _) id,
                    frz_ext (fun o => by simp only [set4, World.frozen?_setCell]; exact hfz6 o) ((Ext.refl (fun _ => False) _).alloc _) (by simp [World.setCell]; omega) id, ?_,
                    (hst6.ext hS4 (by omega) (by omega) (fun b hb => by omega)).alloc _, ((HX5.out.drew.trans' hx6).trans hS4 (fun i hi => .inr (by rw [World.size_alloc]; omega))).alloc _, HF, by omega, by simp [World.setCell]; omega⟩
                  refine ERow.of_cells (xs := [x, y]) (c := 2) (((ECells.nil _ _).snoc (kv := .slice A x.kids.length c) ?_).snoc (kv := .slice A6 y.kids.length c6) ?_) ⟨by omega, by omega⟩ (by simp [World.setCell]) (Nat.le_refl _) ?_
                  · refine (HROW5.out.keep (ok' := fun b => w.heap.size + 1 ≤ b ∧ b ≠ w1.heap.size) hz6 (fun b hb hlt => ⟨hx6.block b hlt (fun e => by have := hb.1; omega), hb⟩)).keep hW.size (fun b hb hlt => ⟨hW.block b hlt hb.2, hb⟩)
                  · exact ERow.keep hr6 hW.size (fun b hb hlt => by
                      have hb' : w5.heap.size ≤ b := hb
                      exact ⟨hW.block b hlt (by omega), by omega, by omega⟩)
                  · intro i u hu
                    have := cells_of_new (set4 w6 w1.heap.size (.int .i64 6) (.int .i64 0) (.string (ba t.text)) (.slice (some ⟨w6.heap.size, 0, none⟩) 2 2)) _ 36 i u hu
                    simpa [World.setCell] using this
            · have e5 : (((level t.text : Nat) : Int) == v) = false := beq_eq_false_iff_ne.2 (by have := HV.out; omega)
              have HF : Hid (r = .ok x (t :: l'')) := by rw [if_neg (fun h => hlv h.2)] at hloop; exact hloop.symm
              clear hloop hg hk hlv
              go_wp2_with fail
              refine (next_cons hst0).mono ?_
              rintro en w2 ⟨rfl, hb2⟩
              have hst2 := hst0.below hb2
              have HX2 := Lib.hid (HX0.out.below hb2)
              obtain ⟨d20, d21, d22, d23⟩ := cells4.ext ⟨d00, d01, d02, d03⟩ (Ext.of_below hb2 (fun _ => False)) id
              have HROW2 := Lib.hid (HROW0.out.keep (ok' := fun b => w.heap.size + 1 ≤ b ∧ b ≠ w1.heap.size) hb2.size (fun b hb' hlt => ⟨hb2.block b hlt, hb'⟩))
              have HFZ2 := Lib.hid (frz_ext HFZ0.out (Ext.of_below hb2 (fun _ => False)) (by omega) id)
              have hsz2 : w1.heap.size < w2.heap.size := by have := hb2.size; omega
              clear hst0 HX0 d00 d01 d02 d03 HROW0 HFZ0 hsz0 hb2
              go_wp2_with fail
              refine (next_cons hst2).mono ?_
              rintro en w3 ⟨rfl, hb3⟩
              have hst3 := hst2.below hb3
              have HX3 := Lib.hid (HX2.out.below hb3)
              obtain ⟨d30, d31, d32, d33⟩ := cells4.ext ⟨d20, d21, d22, d23⟩ (Ext.of_below hb3 (fun _ => False)) id
              have HROW3 := Lib.hid (HROW2.out.keep (ok' := fun b => w.heap.size + 1 ≤ b ∧ b ≠ w1.heap.size) hb3.size (fun b hb' hlt => ⟨hb3.block b hlt, hb'⟩))
              have HFZ3 := Lib.hid (frz_ext HFZ2.out (Ext.of_below hb3 (fun _ => False)) (by omega) id)
              have hsz3 : w1.heap.size < w3.heap.size := by have := hb3.size; omega
              clear hst2 HX2 d20 d21 d22 d23 HROW2 HFZ2 hsz2 hb3
              go_wp2_with fail
              refine (level_calls t.text pb w3 hst3.lev).mono ?_
              rintro en w3' ⟨rfl, rfl⟩
              obtain ⟨s0, s1, s2, s3⟩ := (cells4.new w _ _ _ _ 36).ext HX3.out hp0
              have sf := frz_ext (frozen_new w _ 36) HX3.out (by simp) hp0
              have HS := Lib.hid hst3
              clear hst3
              go_wp2_with fail
              rw [HF.out]
              exact epost_fin rfl rfl HX3.out HS.out (HROW3.out.keep (ok' := From (w.heap.size + 1)) (Nat.le_refl _) fun b hb _ => ⟨rfl, hb.1⟩) h
          · have e4 : ((t.kind : Int) == 4) = false := beq_eq_false_iff_ne.2 (by omega)
            have HF : Hid (r = .ok x (t :: l'')) := by rw [if_neg (fun h => hk h.1)] at hloop; exact hloop.symm
            clear hloop hg hk
            go_wp2_with fail
            refine (next_cons hst0).mono ?_
            rintro en w2 ⟨rfl, hb2⟩
            have hst2 := hst0.below hb2
            have HX2 := Lib.hid (HX0.out.below hb2)
            obtain ⟨d20, d21, d22, d23⟩ := cells4.ext ⟨d00, d01, d02, d03⟩ (Ext.of_below hb2 (fun _ => False)) id
            have HROW2 := Lib.hid (HROW0.out.keep (ok' := fun b => w.heap.size + 1 ≤ b ∧ b ≠ w1.heap.size) hb2.size (fun b hb' hlt => ⟨hb2.block b hlt, hb'⟩))
            have HFZ2 := Lib.hid (frz_ext HFZ0.out (Ext.of_below hb2 (fun _ => False)) (by omega) id)
            have hsz2 : w1.heap.size < w2.heap.size := by have := hb2.size; omega
            clear hst0 HX0 d00 d01 d02 d03 HROW0 HFZ0 hsz0 hb2
            obtain ⟨s0, s1, s2, s3⟩ := (cells4.new w _ _ _ _ 36).ext HX2.out hp0
            have sf := frz_ext (frozen_new w _ 36) HX2.out (by simp) hp0
            have HS := Lib.hid hst2
            clear hst2
            go_wp2_with fail
            rw [HF.out]
            exact epost_fin rfl rfl HX2.out HS.out (HROW2.out.keep (ok' := From (w.heap.size + 1)) (Nat.le_refl _) fun b hb _ => ⟨rfl, hb.1⟩) h
end
end Go.Proofs.YtdijffojppjmfaaDoor
