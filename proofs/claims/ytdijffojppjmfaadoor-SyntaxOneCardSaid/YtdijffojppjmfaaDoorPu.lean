/- The parser's blocks and branches, walked. -/
import Derived.Test.YtdijffojppjmfaaDoorPs
import Derived.Deep.LoopGhost
set_option linter.unusedVariables false
namespace Go.Proofs.YtdijffojppjmfaaDoor
open Go.RowKit Bir Go.BW
theorem infoS : (Tryd.prog.info? 98).map (fun i => (i.zero, i.size, i.bytes)) = some (some (.agg #[.int .i64 0, .string ⟨#[]⟩, .slice none 0 0, .slice none 0 0, .slice none 0 0]), 5, 96) := by kernel_rfl
/-- What the methods of statements do, where the grammar's own functions come to an end in n steps. -/
structure QAll (n : Nat) : Prop where
  stmt : ∀ {w : World} {pb tb e : Nat} {l : List Tok}, PSt w pb tb e l → (gram n).stmt l ≠ .out → Calls Tryd.prog 130 #[pp pb] w (SPost w pb tb e ((gram n).stmt l))
  branch : ∀ {w : World} {pb tb e : Nat} {l : List Tok}, PSt w pb tb e l → (gram n).branch l ≠ .out → Calls Tryd.prog 156 #[pp pb] w (SPost w pb tb e ((gram n).branch l))
  block : ∀ {w : World} {pb tb e : Nat} {l : List Tok}, PSt w pb tb e l → blockF (gram n) l ≠ .out → Calls Tryd.prog 109 #[pp pb] w (BPost w pb tb e (blockF (gram n) l))

section
variable {w : World} {pb tb e n : Nat} {l : List Tok}
set_option maxHeartbeats 1000000 in
theorem block_step (hn9 : n ≤ 1000000000) (ih : ∀ m, m < n → QAll m) (h : PSt w pb tb e l) (hne : blockF (gram n) l ≠ .out) : Calls Tryd.prog 109 #[pp pb] w (BPost w pb tb e (blockF (gram n) l)) := by
  have hpb := h.pb_lt
  have htb := h.tb_lt
  generalize hr : blockF (gram n) l = r at hne ⊢
  have HI := Lib.hid ih
  have HN := Lib.hid hne
  clear ih hne
  cases hm : is [123] l with
  | false =>
    have HF : Hid (r = .err l 4) := by rw [← hr]; simp [blockF, must, hm, R.bind, Hid]
    clear hr
    go_enter Tryd.func109, Tryd.ntmps109
    go_wp2_with fail
    refine (must_no h [123] hm).mono ?_
    rintro en w1 ⟨rfl, hb1⟩
    exact ⟨rfl, by rw [HF.out]; exact ⟨rfl, .of_below hb1 _⟩⟩
  | true =>
  have HR : Hid ((gram n).stmts [] l.tail = r) := by rw [← hr]; simp [blockF, must, hm, R.bind, Hid]
  clear hr
  go_enter Tryd.func109, Tryd.ntmps109
  go_wp2_with fail
  refine (must_yes h [123] hm).mono ?_
  rintro en w1 ⟨rfl, hx1, h1⟩
  clear hm h
  go_wp2_with fail
  go_loopg [3] n (fun gk v wr => ∃ xs l', SAcc 98 wr w.heap.size v xs ∧ PSt wr pb tb e l' ∧ Ext (· = pb) w wr ∧ Hid ((gram gk).stmts xs l' = r) ∧ xs.length + gk ≤ n)
  case atStart => exact ⟨[], l.tail, SAcc.nil _ _ _, h1, hx1, HR, by simp⟩
  case round =>
    obtain ⟨xs, l', hacc, hst, hx, hg, hlen⟩ := hrel
    clear hx1 h1
    cases gk with
    | zero => exact absurd hg.out.symm HN.out
    | succ m =>
      have hgm : stmtsF (gram m) xs l' = r := hg.out
      obtain ⟨A, c, rfl⟩ := hacc.slice
      have HACC := Lib.hid hacc
      have HX := Lib.hid hx
      cases hc : is [125] l' with
      | true =>
        have HGM : Hid (r = .ok xs l'.tail) := by rw [← hgm]; simp [stmtsF, hc, Hid]
        clear hgm hg hacc hx
        go_wp2_with fail
        refine (take_yes hst [125] hc).mono ?_
        rintro en w3 ⟨rfl, hx3, h3⟩
        have HX3 := Lib.hid hx3
        have H3 := Lib.hid h3
        clear hx3 h3
        go_wp2_with fail
        go_ret
        rw [HGM.out]
        exact ⟨_, rfl, (HACC.out.row).ext HX3.out (fun b hb => by omega) (Nat.le_refl _), HX.out.trans' HX3.out, H3.out⟩
      | false =>
        have HQ : Hid (((gram m).stmt l').bind (fun x l1 => (gram m).stmts (xs ++ [x]) l1) = r) := by
          rw [← hgm]; simp only [stmtsF, hc, Bool.false_eq_true, if_false, Hid]
        clear hgm hg hacc hx
        go_wp2_with fail
        refine (take_no hst [125] hc).mono ?_
        rintro en w2 ⟨rfl, hb2⟩
        have hst2 := hst.below hb2
        have HX2 := Lib.hid (HX.out.below hb2)
        have HACC2 := Lib.hid (HACC.out.ext (Ext.of_below hb2 (fun _ => False)) (fun _ h => h.elim))
        clear HX HACC hb2 hst hc
        rcases hy : (gram m).stmt l' with _ | ⟨l3, k⟩ | ⟨x, l3⟩
        · exact absurd (by rw [← HQ.out, hy]; rfl) HN.out
        · have HF : Hid (r = .err l3 k) := by
            rw [← HQ.out, hy]
            rfl
          have HY := Lib.hid hy
          clear hy HQ
          go_wp2_with fail
          refine (SPost.bad ((HI.out m (by omega)).stmt hst2 (by rw [HY.out]; simp)) HY.out).mono ?_
          rintro en w6 ⟨rfl, hx6⟩
          exact ⟨rfl, by rw [HF.out]; exact ⟨rfl, HX2.out.trans' hx6⟩⟩
        · have HF : Hid ((gram m).stmts (xs ++ [x]) l3 = r) := by
            have := HQ.out
            rw [hy] at this
            exact this
          have HY := Lib.hid hy
          clear hy HQ
          go_wp2_with fail
          refine (SPost.got ((HI.out m (by omega)).stmt hst2 (by rw [HY.out]; simp)) HY.out).mono ?_
          rintro en w6 ⟨ev, bv, lv, rfl, he6, hb6, hl6, hx6, h6⟩
          obtain ⟨A6, c6, rfl, _⟩ := he6.slice
          obtain ⟨B6, cb6, rfl, _⟩ := hb6.slice
          obtain ⟨L6, cl6, rfl, _⟩ := hl6.slice
          have hacc6 := HACC2.out.ext hx6 (fun b hb => by omega)
          have hblk := HACC2.out.block
          have hsz := HX2.out.size
          have hsz6 := hx6.size
          obtain ⟨cs, hown, hcs⟩ := hacc6
          have HE6 : Hid (ERow w6 (fun b => w.heap.size ≤ b ∧ some b ≠ (Value.slice A xs.length c).ownBlock) (.slice A6 x.exprs.length c6) x.exprs) := he6.apart hsz (fun k hk => (hblk k hk).2)
          have HB6 : Hid (SRow w6 (fun b => w.heap.size ≤ b ∧ some b ≠ (Value.slice A xs.length c).ownBlock) (.slice B6 x.body.length cb6) x.body) := hb6.apart hsz (fun k hk => (hblk k hk).2)
          have HL6 : Hid (SRow w6 (fun b => w.heap.size ≤ b ∧ some b ≠ (Value.slice A xs.length c).ownBlock) (.slice L6 x.els.length cl6) x.els) := hl6.apart hsz (fun k hk => (hblk k hk).2)
          have hblk6 : ∀ k, (Value.slice A xs.length c).ownBlock = some k → w.heap.size ≤ k := fun k hk => (hblk k hk).1
          have HK6 := Lib.hid hblk6
          have HX6 := Lib.hid (HX2.out.trans' hx6)
          have H6 := Lib.hid h6
          have HCS := Lib.hid hcs
          have HOWN := Lib.hid hown
          clear he6 hb6 hl6 hx6 h6 hcs hown hblk hblk6 HX2 HACC2 hst2
          go_wp2_with (at_builtin; refine append_one w6 w.heap.size rfl _ _ 74 98 _ 5 96 rfl Tryd.underlying74 infoS rfl (by decide) (by decide) (.slice A xs.length c) xs.length cs [.int .i64 x.kind, .string (ba x.name), .slice A6 x.exprs.length c6, .slice B6 x.body.length cb6, .slice L6 x.els.length cl6] rfl rfl rfl (by simp [Value.oneCell']) HOWN.out (by omega) (by omega) ?_; intro v1 w7 hown7 hg7 hat7)
          have hacc7 := SAcc.grow HCS.out HE6.out HB6.out HL6.out hown7 hg7 hat7
          have hx7 : Ext (fun b => (Value.slice A xs.length c).ownBlock = some b) w6 w7 := (Ext.refl _ w6).grown hg7 (fun k hk => .inl hk)
          have hX7 : Ext (· = pb) w w7 := HX6.out.trans hx7 (fun i hi => .inr (HK6.out i hi))
          have h7 := H6.out.ext hx7 (fun hk => by have := HK6.out pb hk; omega) (fun hk => by have := HK6.out tb hk; omega) (fun k hk => by have := HK6.out k hk; omega)
          have HA7 := Lib.hid hacc7
          clear hg7 hat7 hown7 hx7 hacc7
          obtain ⟨A7, c7, rfl⟩ := HA7.out.slice
          go_wp2_with fail
          go_roundg m
          case measure => omega
          case rel => exact ⟨xs ++ [x], l3, HA7.out, h7, hX7, HF, by simp; omega⟩
end
end Go.Proofs.YtdijffojppjmfaaDoor
