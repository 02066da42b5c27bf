/- The parser's programs, walked. -/
import Derived.Test.YtdijffojppjmfaaDoorQd
set_option linter.unusedVariables false
set_option linter.unusedSimpArgs false
namespace Go.Proofs.YtdijffojppjmfaaDoor
open Go.RowKit Bir Go.BW Go.Proofs.YtdijffojppjmfaaDoorW.PrintLast
abbrev zp : Obj := .cells #[.slice none 0 0, .slice none 0 0] 26
def PrVal (w : World) (x : Pr) (v : Value) (w' : World) : Prop := ∃ av fv, v = .agg #[av, fv] ∧ ArrRow w' (From w.heap.size) av x.arrays ∧ FnRow w' (From w.heap.size) fv x.funcs
/-- The two rows of a program that is being read. -/
def POwn (w : World) (bs : Nat) (av fv : Value) (ars : List Arr) (fs : List Bir.Fn) : Prop :=
  w.ownsRow (bs + 1) 73 2 av ars.length (arrCells ars) ∧ (∀ k, av.ownBlock = some k → fv.ownBlock = some k → False) ∧
    ∃ cs, w.ownsRow (bs + 1) 76 3 fv fs.length cs ∧ FnCells w (fun b => bs + 1 ≤ b ∧ some b ≠ av.ownBlock ∧ some b ≠ fv.ownBlock) cs fs
section
variable {w w1 w2 : World} {bs : Nat} {av fv v1 : Value} {ars : List Arr} {fs : List Bir.Fn}
theorem POwn.nil (w : World) (bs : Nat) : POwn w bs (.slice none 0 0) (.slice none 0 0) [] [] := ⟨World.ownsRow_nil _ _ _ _, fun k h => by simp [Value.ownBlock] at h, [], World.ownsRow_nil _ _ _ _, .nil⟩
theorem POwn.keep {S : Nat → Prop} (h : POwn w bs av fv ars fs) (hx : Ext S w w1) (hS : ∀ b, S b → b ≤ bs) : POwn w1 bs av fv ars fs := by
  obtain ⟨ha, hd, cs, hf, hc⟩ := h
  refine ⟨own_keep ha hx fun b hb hk => ?_, hd, cs, own_keep hf hx fun b hb hk => ?_, hc.keep hx.size fun b hb hlt => ⟨hx.block b hlt fun hs => ?_, hb⟩⟩
  · have := (ownsRow_block ha hk).1; have := hS b hb; omega
  · have := (ownsRow_block hf hk).1; have := hS b hb; omega
  · have := hb.1; have := hS b hs; omega
theorem POwn.drew (h : POwn w bs av fv ars fs) : POwn w.drew bs av fv ars fs := h.keep ((Ext.refl (fun _ => False) w).drew) (fun _ h => h.elim)
theorem POwn.rowA (h : POwn w bs av fv ars fs) : ∃ A c, av = .slice A ars.length c := by
  obtain ⟨A, c, h, _⟩ := (VRow.of_own h.1).slice
  exact ⟨A, c, h⟩
theorem POwn.rowF (h : POwn w bs av fv ars fs) : ∃ A c, fv = .slice A fs.length c := by
  obtain ⟨_, _, cs, hf, _⟩ := h
  obtain ⟨A, c, h, _⟩ := (VRow.of_own hf).slice
  exact ⟨A, c, h⟩
theorem POwn.ge (h : POwn w bs av fv ars fs) : (∀ k, av.ownBlock = some k → bs + 1 ≤ k ∧ k < w.heap.size) ∧ (∀ k, fv.ownBlock = some k → bs + 1 ≤ k ∧ k < w.heap.size) := by
  obtain ⟨ha, _, cs, hf, _⟩ := h
  exact ⟨fun k hk => ownsRow_block ha hk, fun k hk => ownsRow_block hf hk⟩
theorem POwn.growA {a : Arr} (h : POwn w bs av fv ars fs) (hown : w1.ownsRow (bs + 1) 73 2 v1 (ars.length + 1) (arrCells ars ++ [.string (ba a.name), .int .i64 a.size])) (hx : Ext (fun b => av.ownBlock = some b) w w1)
    (hat : v1.ownBlock = av.ownBlock ∨ ∃ b, v1.ownBlock = some b ∧ w.heap.size ≤ b) : POwn w1 bs v1 fv (ars ++ [a]) fs := by
  have hge := h.ge
  obtain ⟨ha, hd, cs, hf, hc⟩ := h
  refine ⟨by rw [arrCells_snoc, List.length_append]; exact hown, fun k h1 h2 => ?_, cs, own_keep hf hx fun b hb hk => hd b hb hk, hc.keep hx.size fun b hb hlt => ⟨hx.block b hlt fun hs => hb.2.1 hs.symm, hb.1, ?_, hb.2.2⟩⟩
  · rcases hat with hat | ⟨b, hat, hb⟩
    · exact hd k (hat ▸ h1) h2
    · have := (hge.2 k h2).2
      rw [hat] at h1
      injection h1 with h1
      omega
  · rcases hat with hat | ⟨b', hat, hb'⟩
    · rw [hat]; exact hb.2.1
    · rw [hat]
      intro hh
      injection hh with hh
      omega
theorem POwn.growF {x : Bir.Fn} {cs0 : List Value} {pv bv : Value} (h : POwn w bs av fv ars fs) (hc0 : ∃ cs, w.ownsRow (bs + 1) 76 3 fv fs.length cs ∧ FnCells w (fun b => bs + 1 ≤ b ∧ some b ≠ av.ownBlock ∧ some b ≠ fv.ownBlock) cs fs ∧ cs = cs0)
    (hp : StrRow w (fun b => bs + 1 ≤ b ∧ some b ≠ av.ownBlock ∧ some b ≠ fv.ownBlock) pv x.params) (hb : SRow w (fun b => bs + 1 ≤ b ∧ some b ≠ av.ownBlock ∧ some b ≠ fv.ownBlock) bv x.body)
    (hown : w1.ownsRow (bs + 1) 76 3 v1 (fs.length + 1) (cs0 ++ [.string (ba x.name), pv, bv])) (hx : Ext (fun b => fv.ownBlock = some b) w w1)
    (hat : v1.ownBlock = fv.ownBlock ∨ ∃ b, v1.ownBlock = some b ∧ w.heap.size ≤ b) : POwn w1 bs av v1 ars (fs ++ [x]) := by
  have hge := h.ge
  obtain ⟨ha, hd, _, _, _⟩ := h
  obtain ⟨cs, hf, hc, rfl⟩ := hc0
  refine ⟨own_keep ha hx fun b hb hk => hd b hk hb, fun k h1 h2 => ?_, cs ++ [.string (ba x.name), pv, bv], by rw [List.length_append]; exact hown, (FnCells.snoc hc hp hb).keep hx.size fun b hb hlt => ⟨hx.block b hlt fun hs => hb.2.2 hs.symm, hb.1, hb.2.1, ?_⟩⟩
  · rcases hat with hat | ⟨b, hat, hb⟩
    · exact hd k h1 (hat ▸ h2)
    · have := (hge.1 k h1).2
      rw [hat] at h2
      injection h2 with h2
      omega
  · rcases hat with hat | ⟨b', hat, hb'⟩
    · rw [hat]; exact hb.2.2
    · rw [hat]
      intro hh
      injection hh with hh
      omega
theorem POwn.valA (h : POwn w bs av fv ars fs) {n : Nat} (hn : n ≤ bs) : ArrRow w (From n) av ars :=
  VRow.keep (VRow.of_own h.1) (Nat.le_refl _) fun b hb _ => ⟨rfl, by have : bs + 1 ≤ b := hb; show n ≤ b; omega⟩
theorem POwn.valF (h : POwn w bs av fv ars fs) {n : Nat} (hn : n ≤ bs) : FnRow w (From n) fv fs := by
  obtain ⟨_, _, cs, hf, hc⟩ := h
  exact ⟨cs, VRow.keep (VRow.of_own hf) (Nat.le_refl _) fun b hb _ => ⟨rfl, by have : bs + 1 ≤ b := hb; show n ≤ b; omega⟩, hc.keep (Nat.le_refl _) fun b hb _ => ⟨rfl, by have := hb.1; show n ≤ b; omega⟩⟩
theorem POwn.funcs (h : POwn w bs av fv ars fs) : ∃ cs0, w.ownsRow (bs + 1) 76 3 fv fs.length cs0 ∧ ∃ cs, w.ownsRow (bs + 1) 76 3 fv fs.length cs ∧ FnCells w (fun b => bs + 1 ≤ b ∧ some b ≠ av.ownBlock ∧ some b ≠ fv.ownBlock) cs fs ∧ cs = cs0 := by
  obtain ⟨_, _, cs, hf, hc⟩ := h
  exact ⟨cs, hf, cs, hf, hc, rfl⟩
end
/-- A program whose rows are its own. -/
def PrO (w : World) (x : Pr) (v : Value) (w' : World) : Prop := ∃ av fv bs, v = .agg #[av, fv] ∧ w.heap.size ≤ bs ∧ POwn w' bs av fv x.arrays x.funcs
theorem PrO.val {w : World} {x : Pr} {v : Value} {w' : World} (h : PrO w x v w') : PrVal w x v w' := by
  obtain ⟨av, fv, bs, rfl, hb, h⟩ := h
  exact ⟨av, fv, rfl, h.valA hb, h.valF hb⟩
section
variable {w w2 : World} {pb tb e n : Nat} {l l0 : List Tok}
theorem pr_fin {fn : Func} {k : Nat} {tm : Array Value} {bs : Nat} {av fv : Value} {ars : List Arr} {fs : List Bir.Fn} (hfn : fn.results = #[.cell k 26]) (htm : tm.getD k undef = .pointer (some ⟨w.heap.size, 0, none⟩)) (h : Mid zp w w2 pb tb e l)
    (hbs : w.heap.size + 1 ≤ bs) (ho : POwn w2 bs av fv ars fs) :
    bodyPost Tryd.prog fn (GPost PrO w pb tb e (.ok ⟨ars, fs⟩ l)) .ret { tmps := tm, defers := [] } (set2 w2 w.heap.size av fv) := by
  have hp := h.pb_lt
  have ht := h.tb_lt
  have X := h.ext
  have hs := ext_set2 w2 w.heap.size av fv
  obtain ⟨q0, q1⟩ := set2_cells av fv ((cells2.new w (.slice none 0 0) (.slice none 0 0) 26).ext X (by omega))
  generalize set2 w2 w.heap.size av fv = W at *
  have ho2 := ho.keep hs (fun b hb => by omega)
  refine bodyPost_ret (v := .agg #[av, fv]) ?_ rfl ⟨_, rfl, ⟨av, fv, bs, rfl, by omega, ho2⟩, (((Ext.refl _ w).alloc _).trans' X).trans hs (fun i hi => .inr (by omega)), h.st.ext hs (by omega) (by omega) (fun b hb => by omega)⟩
  have htm' : tm[k]?.getD undef = .pointer (some ⟨w.heap.size, 0, none⟩) := by rw [← htm]; simp
  simp [results, hfn, htm', go_sem, q0, q1]
set_option maxHeartbeats 2000000 in
theorem prog_calls {m0 : Nat} (hn9 : n ≤ 1000000000) (hm9 : m0 ≤ 1000000000) (h : PSt w pb tb e l) (hne : prog n m0 [] [] l ≠ .out) : Calls Tryd.prog 36 #[pp pb] w (GPost PrO w pb tb e (prog n m0 [] [] l)) := by
  generalize hr : prog n m0 [] [] l = r at hne ⊢
  have HN := Lib.hid hne
  have HR := Lib.hid hr
  clear hne hr
  have HL0 := Lib.hid (Mid.start zp h)
  have hq0 := h.pb_lt
  go_enter Tryd.func36, Tryd.ntmps36
  go_wp2_with fail
  have HB0 := Lib.hid (Blk.new HL0.out [.slice none 0 0, .slice none 0 0] 26)
  replace HL0 := Lib.hid (HL0.out.alloc (.cells #[.slice none 0 0, .slice none 0 0] 26))
  rw [World.size_alloc] at HB0
  generalize hbs : w.heap.size + 1 = bs at HB0 ⊢
  go_loopg [] m0 (fun gk wr => ∃ ars fs l' av fv, Mid zp w wr pb tb e l' ∧ Blk w wr pb bs [av, fv] ∧ POwn wr bs av fv ars fs ∧ Hid (prog n gk ars fs l' = r) ∧ ars.length + fs.length + gk ≤ m0)
  case atStart => exact ⟨[], [], l, _, _, HL0.out, HB0.out, POwn.nil _ _, HR, by simp⟩
  case round =>
    obtain ⟨ars, fs, l', av, fv, hmid, hblk, hown, hg, hlen⟩ := hrel
    clear HL0 HB0 HR
    cases gk with
    | zero => exact absurd hg.out.symm HN.out
    | succ m =>
      have hgm : prog n (m + 1) ars fs l' = r := hg.out
      unfold prog at hgm
      have HGM := Lib.hid hgm
      have HL := Lib.hid hmid
      have HB := Lib.hid hblk
      have HO := Lib.hid hown
      obtain ⟨A, c, rfl⟩ := hown.rowA
      obtain ⟨B, d, rfl⟩ := hown.rowF
      clear hgm hg hmid hblk hown
      have hge := HB.out.ge
      have hpl := HL.out.pb_lt
      obtain ⟨Al, cl, hl0, _⟩ := HL.out.st.list
      cases l' with
      | nil =>
        have hc0 := HB.out.c 0 _ rfl
        have hc1 := HB.out.c 1 _ rfl
        have HF : r = .ok ⟨ars, fs⟩ [] := by rw [← HGM.out]; simp
        obtain ⟨s0, s1⟩ := (cells2.new w (.slice none 0 0) (.slice none 0 0) 26).ext HL.out.ext (by omega)
        have sf := frz_ext (frozen_new w #[.slice none 0 0, .slice none 0 0] 26) HL.out.ext (by simp) (by omega)
        have hlt := HB.out.lt
        have hz := HL.out.size
        go_wp2_with fail
        rw [HF]
        exact pr_fin rfl rfl HL.out (by omega) HO.out
      | cons t l' =>
        go_wp2_with fail
        clear hl0
        refine (is_calls HL.out.st [97, 114, 114, 97, 121]).mono ?_
        rintro en v1 ⟨rfl, hb⟩
        replace HO := Lib.hid (HO.out.keep (Ext.of_below hb (fun _ => False)) (fun _ h => h.elim))
        replace HB := Lib.hid (HB.out.below hb)
        replace HL := Lib.hid (HL.out.below hb)
        clear hb
        cases hc : is [97, 114, 114, 97, 121] (t :: l') with
        | true =>
          have hgm := HGM.out
          simp only [hc, R.bind, must, few, List.length_cons, Nat.add_one_ne_zero, if_true, Bool.false_eq_true, if_false] at hgm
          replace HGM := Lib.hid hgm
          clear hgm
          have c1 := HB.out.c 0 _ rfl
          go_wp2_with fail
          clear c1
          by_cases hp8 : 16 ≤ ars.length
          · have HF : r = .err (t :: l') 3 := by rw [← HGM.out]; simp [hp8]
            refine (few_no HL.out.st (ars.length : Int) 16 (by omega)).mono ?_
            rintro en v5 ⟨rfl, hb⟩
            exact ⟨rfl, HL.out.panic (.of_below hb _) HF⟩
          ·
            have hgm := HGM.out
            simp only [show (16 ≤ ars.length) = False from eq_false hp8, R.bind, must, few, List.length_cons, Nat.add_one_ne_zero, if_true, Bool.false_eq_true, if_false] at hgm
            replace HGM := Lib.hid hgm
            clear hgm
            refine (few_ok HL.out.st (ars.length : Int) 16 (by omega)).mono ?_
            rintro en v5 ⟨rfl, rfl⟩
            go_wp2_with fail
            refine wp_region_last_drew (S := fun w' => w'.cell? ⟨bs, 0, none⟩ = some (.slice A ars.length c)) (ds := [5, 6, 7]) (by kernel_rfl) (HB.out.c 0 _ rfl) (fun hHeld => ?_)
            refine last_pure (i := 0) (v := .pointer (some ⟨bs, 0, none⟩)) rfl (by kernel_rfl) (by kernel_rfl) (by kernel_rfl) (fun _ _ _ h => h) (Or.inl ⟨by rfl, ?_⟩) ?_
            · intro w'
              go_simp
            (try simp only [Act.put, List.setIfInBounds_toArray, List.set_cons_zero, List.set_cons_succ])
            refine wpAnyLast_take (i := 1) (v := .slice A ars.length c) rfl (by kernel_rfl) (by kernel_rfl) (by kernel_rfl) (by kernel_rfl) (by kernel_rfl) (fun _ _ _ h => h) (Or.inl ⟨by rfl, ?_⟩) hHeld ?_
            · intro w' a1
              go_simp
            (try simp only [Act.put, List.setIfInBounds_toArray, List.set_cons_zero, List.set_cons_succ])
            refine last_pure (i := 2) (v := pp pb) rfl (by kernel_rfl) (by kernel_rfl) (by kernel_rfl) (fun _ _ _ h => h) (Or.inl ⟨by rfl, ?_⟩) ?_
            · intro w'
              go_simp
            (try simp only [Act.put, List.setIfInBounds_toArray, List.set_cons_zero, List.set_cons_succ])
            refine wpAnyLast_ready (rs := [3]) (by kernel_rfl) (by simp) ?_
            refine AllReadyL.cons rfl (by decide) (fun K hK => ?_) AllReadyL.nil
            go_simp
            replace HL := Lib.hid HL.out.drew
            replace HB := Lib.hid HB.out.drew
            replace HO := Lib.hid HO.out.drew
            rcases hy : array (t :: l') with _ | ⟨l2, k2⟩ | ⟨y, l2⟩
            · exact absurd (by rw [← HGM.out, hy] <;> rfl) HN.out
            · have HF : r = .err l2 k2 := by rw [← HGM.out, hy] <;> rfl
              refine (GPost.bad (array_calls HL.out.st (by rw [hy]; simp)) hy).mono ?_
              rintro en v9 ⟨rfl, hx⟩
              exact ⟨rfl, HL.out.panic hx HF⟩
            ·
              have hgm := HGM.out
              simp only [hy, R.bind, must, few, List.length_cons, Nat.add_one_ne_zero, if_true, Bool.false_eq_true, if_false] at hgm
              replace HGM := Lib.hid hgm
              clear hgm
              refine (GPost.got (array_calls HL.out.st (by rw [hy]; simp)) hy).mono ?_
              rintro en v9 ⟨yv, rfl, rfl, hx, h1⟩
              clear hy
              replace HO := Lib.hid (HO.out.keep hx (fun b hb => by omega))
              replace HB := Lib.hid (HB.out.move hx)
              replace HL := Lib.hid (HL.out.move hx h1)
              clear hx h1
              refine hK.out _ _ (HB.out.c 0 _ rfl) (fun _ => ?_)
              (try simp only [Act.put, List.setIfInBounds_toArray, List.set_cons_zero, List.set_cons_succ])
              refine wpAnyLast_ready (rs := [4]) (by kernel_rfl) (by simp) ?_
              refine AllReadyL.cons rfl (by decide) (fun K4 hK4 => ?_) AllReadyL.nil
              go_simp
              refine hK4.out _ _ ((HB.out.alloc _).c 0 _ rfl) (fun _ => ?_)
              (try simp only [Act.put, List.setIfInBounds_toArray, List.set_cons_zero, List.set_cons_succ])
              refine wpAnyLast_ready (rs := [5]) (by kernel_rfl) (by simp) ?_
              refine AllReadyL.cons_last rfl (by decide) (fun K5 hK5 => ?_) AllReadyL.nil
              rw [if_pos (by rfl)]
              refine append_one_op v9 (bs + 1) _ _ 23 73 _ 2 24 rfl Tryd.underlying23 infoArr rfl (by decide) (by decide) (.slice A ars.length c) ars.length (arrCells ars) [.string (ba y.name), .int .i64 y.size] rfl rfl rfl (by simp [Value.oneCell']) HO.out.1 HB.out.lt (by omega) ?_
              intro v1 w8 hown hx8 hat
              refine hK5.out _ _ ?_
              have hown8 : ∀ k, (.slice A ars.length c : Value).ownBlock = some k → bs + 1 ≤ k := fun k hk => (HO.out.ge.1 k hk).1
              replace HO := Lib.hid (HO.out.growA hown hx8 hat)
              obtain ⟨A8, c8, rfl⟩ := HO.out.rowA
              rw [List.length_append] at HO
              simp only [List.length_cons, List.length_nil] at HO
              replace HB := Lib.hid (HB.out.ext hx8 (fun hs => by have := hown8 bs hs; omega))
              have hst8 := HL.out.st_own hx8 (fun k hk => by have := hown8 k hk; omega)
              replace HL := Lib.hid (HL.out.own hx8 (fun k hk => by have := hown8 k hk; omega) hst8)
              clear hst8 hown hx8 hat hown8
              have c1 := HB.out.c 0 _ rfl
              have cf := HB.out.f
              (try simp only [Act.put, List.setIfInBounds_toArray, List.set_cons_zero, List.set_cons_succ])
              refine wpAnyLast_ready (rs := [6]) (by kernel_rfl) (by simp) ?_
              refine AllReadyL.cons_last rfl (by decide) (fun K6 hK6 => ?_) AllReadyL.nil
              go_simp
              refine hK6.out _ _ ?_
              (try simp only [Act.put, List.setIfInBounds_toArray, List.set_cons_zero, List.set_cons_succ])
              refine wpAnyLast_ready (rs := [7]) (by kernel_rfl) (by simp) ?_
              refine AllReadyL.cons_last rfl (by decide) (fun K7 hK7 => ?_) AllReadyL.nil
              go_simp
              refine hK7.out _ _ ?_
              refine wpAnyLast_done (by kernel_rfl) ?_ _
              (try simp only [Act.put, List.setIfInBounds_toArray, List.set_cons_zero, List.set_cons_succ])
              go_wp2_with fail
              have hX := ext_cell w8 bs 0 (.slice A8 (ars.length + 1) c8)
              have hst8 := HL.out.st_own hX (fun k hk => by omega)
              go_roundg m
              case measure => omega
              case rel =>
                have HB9 := HB.out.set 0 (.slice A8 (ars.length + 1) c8) (by simp)
                exact ⟨ars ++ [y], fs, l2, _, _, HL.out.own hX (fun k hk => by omega) hst8, HB9, HO.out.keep hX (fun b hb => by omega), HGM, by simp; omega⟩
        | false =>
          have hgm := HGM.out
          simp only [hc, R.bind, must, few, List.length_cons, Nat.add_one_ne_zero, if_true, Bool.false_eq_true, if_false] at hgm
          replace HGM := Lib.hid hgm
          clear hgm
          go_wp2_with fail
          refine (is_calls HL.out.st [102, 117, 110, 99]).mono ?_
          rintro en v2 ⟨rfl, hb⟩
          replace HO := Lib.hid (HO.out.keep (Ext.of_below hb (fun _ => False)) (fun _ h => h.elim))
          replace HB := Lib.hid (HB.out.below hb)
          replace HL := Lib.hid (HL.out.below hb)
          clear hb
          cases hc2 : is [102, 117, 110, 99] (t :: l') with
          | true =>
            have hgm := HGM.out
            simp only [hc2, R.bind, must, few, List.length_cons, Nat.add_one_ne_zero, if_true, Bool.false_eq_true, if_false] at hgm
            replace HGM := Lib.hid hgm
            clear hgm
            have c1 := HB.out.c 1 _ rfl
            go_wp2_with fail
            clear c1
            by_cases hp8 : 40 ≤ fs.length
            · have HF : r = .err (t :: l') 3 := by rw [← HGM.out]; simp [hp8]
              refine (few_no HL.out.st (fs.length : Int) 40 (by omega)).mono ?_
              rintro en v5 ⟨rfl, hb⟩
              exact ⟨rfl, HL.out.panic (.of_below hb _) HF⟩
            ·
              have hgm := HGM.out
              simp only [show (40 ≤ fs.length) = False from eq_false hp8, R.bind, must, few, List.length_cons, Nat.add_one_ne_zero, if_true, Bool.false_eq_true, if_false] at hgm
              replace HGM := Lib.hid hgm
              clear hgm
              refine (few_ok HL.out.st (fs.length : Int) 40 (by omega)).mono ?_
              rintro en v5 ⟨rfl, rfl⟩
              go_wp2_with fail
              refine wp_region_last_drew (S := fun w' => w'.cell? ⟨bs, 1, none⟩ = some (.slice B fs.length d)) (ds := [5, 6, 7]) (by kernel_rfl) (HB.out.c 1 _ rfl) (fun hHeld => ?_)
              refine last_pure (i := 0) (v := .pointer (some ⟨bs, 1, none⟩)) rfl (by kernel_rfl) (by kernel_rfl) (by kernel_rfl) (fun _ _ _ h => h) (Or.inl ⟨by rfl, ?_⟩) ?_
              · intro w'
                go_simp
              (try simp only [Act.put, List.setIfInBounds_toArray, List.set_cons_zero, List.set_cons_succ])
              refine wpAnyLast_take (i := 1) (v := .slice B fs.length d) rfl (by kernel_rfl) (by kernel_rfl) (by kernel_rfl) (by kernel_rfl) (by kernel_rfl) (fun _ _ _ h => h) (Or.inl ⟨by rfl, ?_⟩) hHeld ?_
              · intro w' a1
                go_simp
              (try simp only [Act.put, List.setIfInBounds_toArray, List.set_cons_zero, List.set_cons_succ])
              refine last_pure (i := 2) (v := pp pb) rfl (by kernel_rfl) (by kernel_rfl) (by kernel_rfl) (fun _ _ _ h => h) (Or.inl ⟨by rfl, ?_⟩) ?_
              · intro w'
                go_simp
              (try simp only [Act.put, List.setIfInBounds_toArray, List.set_cons_zero, List.set_cons_succ])
              refine wpAnyLast_ready (rs := [3]) (by kernel_rfl) (by simp) ?_
              refine AllReadyL.cons rfl (by decide) (fun K hK => ?_) AllReadyL.nil
              go_simp
              replace HL := Lib.hid HL.out.drew
              replace HB := Lib.hid HB.out.drew
              replace HO := Lib.hid HO.out.drew
              rcases hy : func n (t :: l') with _ | ⟨l2, k2⟩ | ⟨y, l2⟩
              · exact absurd (by rw [← HGM.out, hy] <;> rfl) HN.out
              · have HF : r = .err l2 k2 := by rw [← HGM.out, hy] <;> rfl
                refine (GPost.bad (func_calls hn9 HL.out.st (by rw [hy]; simp)) hy).mono ?_
                rintro en v9 ⟨rfl, hx⟩
                exact ⟨rfl, HL.out.panic hx HF⟩
              ·
                have hgm := HGM.out
                simp only [hy, R.bind, must, few, List.length_cons, Nat.add_one_ne_zero, if_true, Bool.false_eq_true, if_false] at hgm
                replace HGM := Lib.hid hgm
                clear hgm
                refine (GPost.got (func_calls hn9 HL.out.st (by rw [hy]; simp)) hy).mono ?_
                rintro en v9 ⟨yv, rfl, ⟨pv, bv, rfl, hpv, hbv⟩, hx, h1⟩
                obtain ⟨A4, c4, rfl, _⟩ := VRow.slice hpv
                obtain ⟨A5, c5, rfl, _⟩ := hbv.slice
                have hge5 := HO.out.ge
                have hlt5 := HB.out.lt
                have HPV := Lib.hid (VRow.keep hpv (Nat.le_refl _) (ok' := fun b => bs + 1 ≤ b ∧ some b ≠ (Value.slice A ars.length c).ownBlock ∧ some b ≠ (Value.slice B fs.length d).ownBlock) fun b hb _ =>
                  ⟨rfl, Nat.le_trans hlt5 hb, fun h => by have := (hge5.1 b h.symm).2; exact absurd hb (Nat.not_le.2 this), fun h => by have := (hge5.2 b h.symm).2; exact absurd hb (Nat.not_le.2 this)⟩)
                have HBV := Lib.hid (hbv.keep (Nat.le_refl _) (ok' := fun b => bs + 1 ≤ b ∧ some b ≠ (Value.slice A ars.length c).ownBlock ∧ some b ≠ (Value.slice B fs.length d).ownBlock) fun b hb _ =>
                  ⟨rfl, Nat.le_trans hlt5 hb, fun h => by have := (hge5.1 b h.symm).2; exact absurd hb (Nat.not_le.2 this), fun h => by have := (hge5.2 b h.symm).2; exact absurd hb (Nat.not_le.2 this)⟩)
                clear hpv hbv hge5 hlt5
                clear hy
                replace HO := Lib.hid (HO.out.keep hx (fun b hb => by omega))
                replace HB := Lib.hid (HB.out.move hx)
                replace HL := Lib.hid (HL.out.move hx h1)
                clear hx h1
                refine hK.out _ _ (HB.out.c 1 _ rfl) (fun _ => ?_)
                (try simp only [Act.put, List.setIfInBounds_toArray, List.set_cons_zero, List.set_cons_succ])
                refine wpAnyLast_ready (rs := [4]) (by kernel_rfl) (by simp) ?_
                refine AllReadyL.cons rfl (by decide) (fun K4 hK4 => ?_) AllReadyL.nil
                go_simp
                refine hK4.out _ _ ((HB.out.alloc _).c 1 _ rfl) (fun _ => ?_)
                (try simp only [Act.put, List.setIfInBounds_toArray, List.set_cons_zero, List.set_cons_succ])
                refine wpAnyLast_ready (rs := [5]) (by kernel_rfl) (by simp) ?_
                refine AllReadyL.cons_last rfl (by decide) (fun K5 hK5 => ?_) AllReadyL.nil
                rw [if_pos (by rfl)]
                obtain ⟨cs0, hcs, hcs0⟩ := HO.out.funcs
                have HCS := Lib.hid hcs
                have HCS0 := Lib.hid hcs0
                clear hcs hcs0
                refine append_one_op v9 (bs + 1) _ _ 24 76 _ 3 64 rfl Tryd.underlying24 infoFn rfl (by decide) (by decide) (.slice B fs.length d) fs.length cs0 [.string (ba y.name), .slice A4 y.params.length c4, .slice A5 y.body.length c5] rfl rfl rfl (by simp [Value.oneCell']) HCS.out HB.out.lt (by omega) ?_
                intro v1 w8 hown hx8 hat
                refine hK5.out _ _ ?_
                have hown8 : ∀ k, (.slice B fs.length d : Value).ownBlock = some k → bs + 1 ≤ k := fun k hk => (HO.out.ge.2 k hk).1
                replace HO := Lib.hid (HO.out.growF HCS0.out HPV.out HBV.out hown hx8 hat)
                obtain ⟨A8, c8, rfl⟩ := HO.out.rowF
                rw [List.length_append] at HO
                simp only [List.length_cons, List.length_nil] at HO
                replace HB := Lib.hid (HB.out.ext hx8 (fun hs => by have := hown8 bs hs; omega))
                have hst8 := HL.out.st_own hx8 (fun k hk => by have := hown8 k hk; omega)
                replace HL := Lib.hid (HL.out.own hx8 (fun k hk => by have := hown8 k hk; omega) hst8)
                clear hst8 hown hx8 hat hown8
                have c1 := HB.out.c 1 _ rfl
                have cf := HB.out.f
                (try simp only [Act.put, List.setIfInBounds_toArray, List.set_cons_zero, List.set_cons_succ])
                refine wpAnyLast_ready (rs := [6]) (by kernel_rfl) (by simp) ?_
                refine AllReadyL.cons_last rfl (by decide) (fun K6 hK6 => ?_) AllReadyL.nil
                go_simp
                refine hK6.out _ _ ?_
                (try simp only [Act.put, List.setIfInBounds_toArray, List.set_cons_zero, List.set_cons_succ])
                refine wpAnyLast_ready (rs := [7]) (by kernel_rfl) (by simp) ?_
                refine AllReadyL.cons_last rfl (by decide) (fun K7 hK7 => ?_) AllReadyL.nil
                go_simp
                refine hK7.out _ _ ?_
                refine wpAnyLast_done (by kernel_rfl) ?_ _
                (try simp only [Act.put, List.setIfInBounds_toArray, List.set_cons_zero, List.set_cons_succ])
                go_wp2_with fail
                have hX := ext_cell w8 bs 1 (.slice A8 (fs.length + 1) c8)
                have hst8 := HL.out.st_own hX (fun k hk => by omega)
                go_roundg m
                case measure => omega
                case rel =>
                  have HB9 := HB.out.set 1 (.slice A8 (fs.length + 1) c8) (by simp)
                  exact ⟨ars, fs ++ [y], l2, _, _, HL.out.own hX (fun k hk => by omega) hst8, HB9, HO.out.keep hX (fun b hb => by omega), HGM, by simp; omega⟩
          | false =>
            have hgm := HGM.out
            simp only [hc2, R.bind, must, few, List.length_cons, Nat.add_one_ne_zero, if_true, Bool.false_eq_true, if_false] at hgm
            replace HGM := Lib.hid hgm
            clear hgm
            have HF := Lib.hid HGM.out.symm
            go_wp2_with fail
            refine (fail_calls HL.out.st 4).mono ?_
            rintro en v5 ⟨rfl, hb⟩
            exact ⟨rfl, HL.out.panic (.of_below hb _) HF.out⟩
end
end Go.Proofs.YtdijffojppjmfaaDoor
