/- The program's sizes, walked. -/
import Derived.Test.YtdijffojppjmfaaDoorQo
set_option linter.unusedVariables false
set_option linter.unusedSimpArgs false
namespace Bir
theorem sizeB_snoc (l : List St) (x : St) : sizeB (l ++ [x]) = sizeB l + sizeS x := by rw [sizeB_app]; simp [sizeB]
theorem sizeEs_snoc (l : List Ex) (x : Ex) : sizeEs (l ++ [x]) = sizeEs l + sizeE x := by rw [sizeEs_app]; simp [sizeEs]
theorem sizeP_snoc (l : List Fn) (x : Fn) : sizeP (l ++ [x]) = sizeP l + sizeB x.body := by rw [sizeP_app]; simp [sizeP]
theorem take_sizeEs (l : List Ex) (k : Nat) : sizeEs (l.take k) ≤ sizeEs l := by have h := sizeEs_app (l.take k) (l.drop k); rw [List.take_append_drop] at h; omega
theorem take_sizeB (l : List St) (k : Nat) : sizeB (l.take k) ≤ sizeB l := by have h := sizeB_app (l.take k) (l.drop k); rw [List.take_append_drop] at h; omega
theorem take_sizeP (l : List Fn) (k : Nat) : sizeP (l.take k) ≤ sizeP l := by have h := sizeP_app (l.take k) (l.drop k); rw [List.take_append_drop] at h; omega
end Bir
namespace Go.Proofs.YtdijffojppjmfaaDoor
open Go.RowKit Bir Go.BW
set_option maxRecDepth 100000 in
set_option maxHeartbeats 2000000 in
theorem sizeExpr_calls : ∀ (m : Nat) (x : Ex) {w : World} {ok : Nat → Prop} {kv : Value}, sizeE x ≤ m → m ≤ 1000000000 → ERow w ok kv x.kids →
    Calls Tryd.prog 92 #[.agg #[.int .i64 x.kind, .int .i64 x.num, .string (ba x.name), kv]] w fun en w' => en = .returned (.int .i64 (sizeE x)) ∧ Below w.heap.size w w'
  | 0, x, w, ok, kv, h, _, _ => absurd h (by rw [sizeE_eq]; omega)
  | m + 1, x, w, ok, kv, h, hm, hr => by
    have ih := sizeExpr_calls m
    obtain ⟨A, c, rfl, hc⟩ := hr.slice
    have hsz := sizeE_eq x
    have hlen := len_sizeEs x.kids
    have HS : Hid (∀ y ∈ x.kids, sizeE y ≤ m) := Lib.hid fun y hy => by have := mem_sizeEs hy; omega
    have HD := Lib.hid (sizeE_eq x)
    have HI := Lib.hid ih
    have HR := Lib.hid hr
    have hl9 : x.kids.length ≤ 1000000000 := by omega
    have HQ : Hid (∀ k, sizeEs (x.kids.take k) ≤ m) := Lib.hid fun k => by have := take_sizeEs x.kids k; omega
    clear ih hsz hlen h hr
    go_enter Tryd.func92, Tryd.ntmps92
    go_wp2_with fail
    go_loopw [3, 9] (fun n i wr => ∃ k : Nat, k ≤ x.kids.length ∧ i = .int .i64 k ∧ n = .int .i64 (1 + sizeEs (x.kids.take k) : Nat) ∧ Below w.heap.size w wr) (fun _ i _ => x.kids.length - (intOf i).toNat)
    case atStart => exact ⟨0, Nat.zero_le _, rfl, by simp [sizeEs], (Below.refl _ w).alloc (Nat.le_refl _) _⟩
    case round =>
      obtain ⟨k, hk, rfl, rfl, hb⟩ := hrel
      by_cases hlt : k < x.kids.length
      · obtain ⟨b, off, kv, rfl, hbl, ⟨a0, a1, a2, a3⟩, hkr⟩ := erow_at (HR.out.keep (w1 := ‹World›) (ok' := fun _ => True) hb.size fun b _ hlt => ⟨hb.block b hlt, trivial⟩) hlt
        obtain ⟨A1, c1, rfl, _⟩ := hkr.slice
        have HK := Lib.hid hkr
        clear hkr
        have HT : Hid (sizeEs (x.kids.take (k + 1)) = sizeEs (x.kids.take k) + sizeE x.kids[k]) := Lib.hid (by rw [take_snoc' _ _ hlt, sizeEs_snoc])
        have HSk : Hid (sizeE x.kids[k] ≤ m) := Lib.hid (HS.out _ (List.getElem_mem hlt))
        have hq0 := HQ.out k
        have hq1 := HQ.out (k + 1)
        rw [HT.out] at hq1
        generalize x.kids[k] = y at *
        go_wp2_with fail
        refine (HI.out y HSk.out (by omega) (HK.out.keep (w1 := _) (ok' := fun _ => True) (by rw [World.size_alloc]; omega) fun b _ hlt => ⟨Below.heap_alloc _ _ b hlt, trivial⟩)).mono ?_
        rintro en w2 ⟨rfl, hb2⟩
        go_wp2_with fail
        refine ⟨⟨k + 1, by omega, by go_num, ?_, (hb.trans (((Below.refl _ wr).alloc (Nat.le_refl _) _).mono hb.size)).trans (hb2.mono (by have := hb.size; rw [World.size_alloc]; omega))⟩, by simp [intOf]; omega⟩
        rw [HT.out]
        exact congrArg (Value.int IntKind.i64) (by omega)
      · obtain rfl : k = x.kids.length := by omega
        rw [List.take_length]
        go_wp2_with fail
        go_ret
        exact ⟨by rw [HD.out]; exact congrArg (fun v => Ending.returned (Value.int IntKind.i64 v)) (by omega), hb⟩
set_option maxRecDepth 100000 in
set_option maxHeartbeats 4000000 in
theorem sizeBlock_calls : ∀ (m : Nat) (l : List St) {w : World} {ok : Nat → Prop} {lv : Value}, sizeB l ≤ m → m ≤ 1000000000 → SRow w ok lv l →
    Calls Tryd.prog 51 #[lv] w fun en w' => en = .returned (.int .i64 (sizeB l)) ∧ Below w.heap.size w w' := by
  intro m
  induction m using Nat.strongRecOn with
  | _ m ih =>
    intro l w ok lv h hm hr
    obtain ⟨A, c, rfl, hc⟩ := hr.slice
    have hlen := len_sizeB l
    have HS : Hid (∀ y ∈ l, sizeS y ≤ m) := Lib.hid fun y hy => by have := mem_sizeB hy; omega
    have HI := Lib.hid ih
    have HR := Lib.hid hr
    have hl9 : l.length ≤ 1000000000 := by omega
    have HQ : Hid (∀ k, sizeB (l.take k) ≤ m) := Lib.hid fun k => by have := take_sizeB l k; omega
    clear ih hlen h hr
    go_enter Tryd.func51, Tryd.ntmps51
    go_wp2_with fail
    go_loopw [3, 12] (fun n i wr => ∃ k : Nat, k ≤ l.length ∧ i = .int .i64 k ∧ n = .int .i64 (l.length - k + sizeB (l.take k) : Nat) ∧ Below w.heap.size w wr) (fun _ i _ => l.length - (intOf i).toNat)
    case atStart => exact ⟨0, Nat.zero_le _, rfl, by simp [sizeB], Below.refl _ w⟩
    case round =>
      obtain ⟨k, hk, rfl, rfl, hb⟩ := hrel
      obtain ⟨wo, rfl⟩ : ∃ wo : World, wo = wr := ⟨_, rfl⟩
      by_cases hlt : k < l.length
      · obtain ⟨b, off, ev, bv, lv, rfl, hbl, ⟨a0, a1, a2, a3, a4⟩, he, hbb, hll⟩ := srow_at (HR.out.keep (w1 := ‹World›) (ok' := fun _ => True) hb.size fun b _ hlt => ⟨hb.block b hlt, trivial⟩) hlt
        obtain ⟨A1, c1, rfl, _⟩ := he.slice
        obtain ⟨A2, c2, rfl, _⟩ := hbb.slice
        obtain ⟨A3, c3, rfl, _⟩ := hll.slice
        have HE := Lib.hid he
        have HBB := Lib.hid hbb
        have HLL := Lib.hid hll
        clear he hbb hll
        have HT : Hid (sizeB (l.take (k + 1)) = sizeB (l.take k) + sizeS l[k]) := Lib.hid (by rw [take_snoc' _ _ hlt, sizeB_snoc])
        have HSk : Hid (sizeS l[k] ≤ m) := Lib.hid (HS.out _ (List.getElem_mem hlt))
        have hq0 := HQ.out k
        have hq1 := HQ.out (k + 1)
        rw [HT.out] at hq1
        generalize l[k] = y at *
        have hsz := sizeS_eq y
        have HSZ := Lib.hid hsz
        obtain ⟨n0, hn0⟩ : ∃ n0 : Nat, n0 = l.length - k + sizeB (l.take k) := ⟨_, rfl⟩
        rw [← hn0]
        have hn9 : n0 + sizeEs y.exprs + sizeB y.body + sizeB y.els ≤ 2000000000 := by omega
        have HN0 := Lib.hid hn0
        clear hsz hq0 hq1 hn0
        go_wp2_with fail
        obtain ⟨q0, q1, q2, q3, q4⟩ := cells5.new wo (.int .i64 y.kind) (.string (ba y.name)) (.slice A1 y.exprs.length c1) (.slice A2 y.body.length c2) (.slice A3 y.els.length c3) 98
        have hW0 : Below w.heap.size w (wo.alloc (.cells #[.int .i64 y.kind, .string (ba y.name), .slice A1 y.exprs.length c1, .slice A2 y.body.length c2, .slice A3 y.els.length c3] 98)) := hb.alloc hb.size _
        have hKR : ∀ b', b' < wo.heap.size → (wo.alloc (.cells #[.int .i64 y.kind, .string (ba y.name), .slice A1 y.exprs.length c1, .slice A2 y.body.length c2, .slice A3 y.els.length c3] 98)).heap[b']? = wo.heap[b']? := fun b' h => Below.heap_alloc _ _ b' h
        have hlt0 : wo.heap.size < (wo.alloc (.cells #[.int .i64 y.kind, .string (ba y.name), .slice A1 y.exprs.length c1, .slice A2 y.body.length c2, .slice A3 y.els.length c3] 98)).heap.size := by simp
        generalize wo.alloc (.cells #[.int .i64 y.kind, .string (ba y.name), .slice A1 y.exprs.length c1, .slice A2 y.body.length c2, .slice A3 y.els.length c3] 98) = W0 at q0 q1 q2 q3 q4 hW0 hKR hlt0 ⊢
        have HB1 : Hid (∀ W', Below W0.heap.size W0 W' → Calls Tryd.prog 51 #[.slice A2 y.body.length c2] W' fun en w' => en = .returned (.int .i64 (sizeB y.body)) ∧ Below W0.heap.size W0 w') := Lib.hid fun W' hW =>
          (HI.out (sizeB y.body) (by have := HSZ.out; have := HSk.out; omega) y.body (Nat.le_refl _) (by have := HSZ.out; have := HSk.out; omega) (HBB.out.keep (w1 := W') (ok' := fun _ => True) (by have := hW.size; omega) fun b' _ hl => ⟨(hW.block b' (by omega)).trans (hKR b' hl), trivial⟩)).mono fun en w' h => ⟨h.1, hW.trans (h.2.mono hW.size)⟩
        have HB2 : Hid (∀ W', Below W0.heap.size W0 W' → Calls Tryd.prog 51 #[.slice A3 y.els.length c3] W' fun en w' => en = .returned (.int .i64 (sizeB y.els)) ∧ Below W0.heap.size W0 w') := Lib.hid fun W' hW =>
          (HI.out (sizeB y.els) (by have := HSZ.out; have := HSk.out; omega) y.els (Nat.le_refl _) (by have := HSZ.out; have := HSk.out; omega) (HLL.out.keep (w1 := W') (ok' := fun _ => True) (by have := hW.size; omega) fun b' _ hl => ⟨(hW.block b' (by omega)).trans (hKR b' hl), trivial⟩)).mono fun en w' h => ⟨h.1, hW.trans (h.2.mono hW.size)⟩
        have HBE : Hid (∀ W', Below W0.heap.size W0 W' → ERow W' (fun _ => True) (.slice A1 y.exprs.length c1) y.exprs) := Lib.hid fun W' hW =>
          HE.out.keep (w1 := W') (ok' := fun _ => True) (by have := hW.size; omega) fun b' _ hl => ⟨(hW.block b' (by omega)).trans (hKR b' hl), trivial⟩
        have HQE : Hid (∀ j, sizeEs (y.exprs.take j) ≤ sizeEs y.exprs) := Lib.hid fun j => take_sizeEs _ _
        have hel := len_sizeEs y.exprs
        have hel9 : y.exprs.length ≤ 1000000000 := by have := HSZ.out; have := HSk.out; omega
        have Q3 := Lib.hid q3
        have Q4 := Lib.hid q4
        clear hKR q0 q1 q3 q4 hel
        go_wp2_with fail
        clear q2
        go_loopw [3, 19] (fun n i wq => ∃ j : Nat, j ≤ y.exprs.length ∧ i = .int .i64 j ∧ n = .int .i64 (n0 + sizeEs (y.exprs.take j) : Nat) ∧ Below W0.heap.size W0 wq) (fun _ i _ => y.exprs.length - (intOf i).toNat)
        case atStart => exact ⟨0, Nat.zero_le _, rfl, by simp [sizeEs], Below.refl _ _⟩
        case round =>
          obtain ⟨j, hj, rfl, rfl, hbq⟩ := hrel
          by_cases hjt : j < y.exprs.length
          · obtain ⟨b2, off2, kv, hA1, hb2l, ⟨e0, e1, e2, e3⟩, hkr⟩ := erow_at (HBE.out _ hbq) hjt
            subst hA1
            obtain ⟨A4, c4, rfl, _⟩ := hkr.slice
            have HK := Lib.hid hkr
            clear hkr
            have HT2 : Hid (sizeEs (y.exprs.take (j + 1)) = sizeEs (y.exprs.take j) + sizeE y.exprs[j]) := Lib.hid (by rw [take_snoc' _ _ hjt, sizeEs_snoc])
            have hzs : sizeE y.exprs[j] ≤ 1000000000 := by have := mem_sizeEs (List.getElem_mem hjt); have := HSZ.out; have := HSk.out; omega
            have HZS := Lib.hid hzs
            have hq1 := HQE.out j
            have hq2 := HQE.out (j + 1)
            rw [HT2.out] at hq2
            clear hzs
            generalize y.exprs[j] = z at *
            generalize sizeEs (y.exprs.take j) = q0 at *
            go_wp2_with fail
            refine (sizeExpr_calls (sizeE z) z (Nat.le_refl _) HZS.out (HK.out.keep (w1 := _) (ok' := fun _ => True) (by rw [World.size_alloc]; omega) fun b _ hlt => ⟨Below.heap_alloc _ _ b hlt, trivial⟩)).mono ?_
            rintro en w2 ⟨rfl, hb2⟩
            go_wp2_with fail
            refine ⟨⟨j + 1, by omega, by go_num, ?_, (hbq.trans (((Below.refl _ _).alloc (Nat.le_refl _) _).mono hbq.size)).trans (hb2.mono (by have := hbq.size; rw [World.size_alloc]; omega))⟩, by simp [intOf]; omega⟩
            rw [HT2.out]
            exact congrArg (Value.int IntKind.i64) (by omega)
          · obtain rfl : j = y.exprs.length := by omega
            rw [List.take_length]
            have k3' := (hbq.cell (p := ⟨wo.heap.size, 3, none⟩) hlt0).trans Q3.out
            have k4' := (hbq.cell (p := ⟨wo.heap.size, 4, none⟩) hlt0).trans Q4.out
            have HR0 : Hid (Below W0.heap.size W0 wr.drew) := Lib.hid hbq.drew
            obtain ⟨n1, hn1⟩ : ∃ n1 : Nat, n1 = n0 + sizeEs y.exprs := ⟨_, rfl⟩
            rw [← hn1]
            have hn19 : n1 + sizeB y.body + sizeB y.els ≤ 2000000000 := by omega
            have e1 : IntKind.i64.wrap ((sizeB y.body : Int) + (sizeB y.els : Int)) = (sizeB y.body : Int) + (sizeB y.els : Int) := IntWalk.i64_in _ (by omega)
            have e2 : IntKind.i64.wrap ((n1 : Int) + ((sizeB y.body : Int) + (sizeB y.els : Int))) = (n1 : Int) + ((sizeB y.body : Int) + (sizeB y.els : Int)) := IntWalk.i64_in _ (by omega)
            have HN1 := Lib.hid hn1
            clear hn1
            go_wp2_with fail
            go_region_held3 (fun w' => w'.cell? ⟨wo.heap.size, 3, none⟩ = some (.slice A2 y.body.length c2) ∧ w'.cell? ⟨wo.heap.size, 4, none⟩ = some (.slice A3 y.els.length c3)) (go_keep)
              (first
                | (go_at_call 51; (with_reducible refine (HB1.out _ ?_).mono ?_); (first | exact hbW | exact HR0.out); rintro en w3 ⟨rfl, hbW⟩; have k3 := (hbW.cell (p := ⟨wo.heap.size, 3, none⟩) hlt0).trans Q3.out; have k4 := (hbW.cell (p := ⟨wo.heap.size, 4, none⟩) hlt0).trans Q4.out)
                | (go_at_call 51; (with_reducible refine (HB2.out _ ?_).mono ?_); (first | exact hbW | exact HR0.out); rintro en w3 ⟨rfl, hbW⟩; have k3 := (hbW.cell (p := ⟨wo.heap.size, 3, none⟩) hlt0).trans Q3.out; have k4 := (hbW.cell (p := ⟨wo.heap.size, 4, none⟩) hlt0).trans Q4.out))
            go_wp2_with fail
            refine ⟨⟨k + 1, by omega, by go_num, ?_, hW0.trans (hbW.mono hW0.size)⟩, by simp [intOf]; omega⟩
            rw [HT.out]
            exact congrArg (Value.int IntKind.i64) (by have := HN0.out; have := HN1.out; have := HSZ.out; omega)
      · obtain rfl : k = l.length := by omega
        rw [List.take_length]
        go_wp2_with fail
        go_ret
        exact ⟨congrArg (fun v => Ending.returned (Value.int IntKind.i64 v)) (by omega), hb⟩
set_option maxRecDepth 100000 in
set_option maxHeartbeats 2000000 in
theorem size_calls (fs : List Bir.Fn) {w : World} {ok : Nat → Prop} {A0 : Option Addr} {n0 c0 : Nat} {fv : Value} (hs : sizeP fs + fs.length ≤ 1000000000) (hr : FnRow w ok fv fs) :
    Calls Tryd.prog 26 #[.agg #[.slice A0 n0 c0, fv]] w fun en w' => en = .returned (.int .i64 (sizeP fs)) ∧ Below w.heap.size w w' := by
  obtain ⟨A, c, rfl, hc⟩ : ∃ A c, fv = .slice A fs.length c ∧ fs.length ≤ c := by
    obtain ⟨cs, h1, _⟩ := hr
    exact h1.slice
  have HS : Hid (∀ y ∈ fs, sizeB y.body ≤ 1000000000) := Lib.hid fun y hy => by have := mem_sizeP hy; omega
  have HR := Lib.hid hr
  have hl9 : fs.length ≤ 1000000000 := by omega
  have HQ : Hid (∀ k, sizeP (fs.take k) ≤ 1000000000) := Lib.hid fun k => by have := take_sizeP fs k; omega
  clear hr hs
  go_enter Tryd.func26, Tryd.ntmps26
  go_wp2_with fail
  go_loopw [3, 9] (fun n i wr => ∃ k : Nat, k ≤ fs.length ∧ i = .int .i64 k ∧ n = .int .i64 (sizeP (fs.take k) : Nat) ∧ Below w.heap.size w wr) (fun _ i _ => fs.length - (intOf i).toNat)
  case atStart => exact ⟨0, Nat.zero_le _, rfl, by simp [sizeP], (Below.refl _ w).alloc (Nat.le_refl _) _⟩
  case round =>
    obtain ⟨k, hk, rfl, rfl, hb⟩ := hrel
    by_cases hlt : k < fs.length
    · obtain ⟨b, off, pv, bv, rfl, hbl, a0, a1, a2, hp, hkr⟩ := fnrow_at (HR.out.keep (w1 := ‹World›) (ok' := fun _ => True) hb.size fun b _ hlt => ⟨hb.block b hlt, trivial⟩) hlt
      obtain ⟨A1, c1, rfl, _⟩ := hkr.slice
      obtain ⟨A2, c2, rfl, _⟩ := VRow.slice hp
      have HK := Lib.hid hkr
      clear hkr hp
      have HT : Hid (sizeP (fs.take (k + 1)) = sizeP (fs.take k) + sizeB fs[k].body) := Lib.hid (by rw [take_snoc' _ _ hlt, sizeP_snoc])
      have HSk : Hid (sizeB fs[k].body ≤ 1000000000) := Lib.hid (HS.out _ (List.getElem_mem hlt))
      have hq0 := HQ.out k
      have hq1 := HQ.out (k + 1)
      rw [HT.out] at hq1
      generalize fs[k] = y at *
      go_wp2_with fail
      refine (sizeBlock_calls (sizeB y.body) y.body (Nat.le_refl _) HSk.out (HK.out.keep (w1 := _) (ok' := fun _ => True) (by rw [World.size_alloc]; omega) fun b _ hlt => ⟨Below.heap_alloc _ _ b hlt, trivial⟩)).mono ?_
      rintro en w2 ⟨rfl, hb2⟩
      go_wp2_with fail
      refine ⟨⟨k + 1, by omega, by go_num, ?_, (hb.trans (((Below.refl _ _).alloc (Nat.le_refl _) _).mono hb.size)).trans (hb2.mono (by have := hb.size; rw [World.size_alloc]; omega))⟩, by simp [intOf]; omega⟩
      rw [HT.out]
      exact congrArg (Value.int IntKind.i64) (by omega)
    · obtain rfl : k = fs.length := by omega
      rw [List.take_length]
      go_wp2_with fail
      go_ret
      exact ⟨rfl, hb⟩
end Go.Proofs.YtdijffojppjmfaaDoor
