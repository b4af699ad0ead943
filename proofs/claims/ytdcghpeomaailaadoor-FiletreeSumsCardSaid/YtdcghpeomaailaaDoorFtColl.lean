/-
  The walks of slices.AppendSeq, slices.Collect over Walk's iterator; of Entries.
-/
import Derived.Test.YtdcghpeomaailaaDoorFtFresh
namespace Go.Proofs.YtdcghpeomaailaaDoor
open Go.RowKit Go.Lib Go.Shelf Ft

attribute [local go_sem] Oper.semAt_some

/-- Entries of a call's own. -/
def EntsOut (u : List Ent) (w : World) (e' : Ending) (w' : World) : Prop :=
  ∃ va vc l, e' = .returned (.slice va u.length vc) ∧ EntsNew w.heap.size w' va vc l ∧ l.map Prod.fst = u ∧ Below w.heap.size w w'

/-- Between two rounds. -/
def SeqI (w : World) (m : Nat) (pre : List EC) (W : World) : Prop :=
  ∃ va vc, W.heap[w.heap.size]? = some (.cells #[.slice va pre.length vc] 29) ∧ EntsNew m W va vc pre ∧ w.heap.size < m ∧ Below w.heap.size w W

theorem seqI_own (w : World) (B m : Nat) (hB : w.heap.size ≤ B) : OwnFrom B (SeqI w m) := by
  rintro pre X Y row ⟨va, vc, h1, h2, h3, h4⟩ hg hr
  refine ⟨va, vc, ?_, h2.kept hg (fun r e => (hr r e).2), h3, h4.grown hg h4.size (fun k e => Nat.le_trans hB (hr k e).1)⟩
  rw [hg.block _ (lt_of_block h1) (fun e => by obtain ⟨_, o, ho, hc⟩ := hr _ e.symm; rw [h1] at ho; cases ho; cases hc)]
  exact h1

/-- The loop variable's box. -/
def EntBox (W : World) (B : Nat) (x : EC) : Prop := W.heap[B]? = some (.cells (entCells x.1 x.2.1 x.2.2).toArray 25)

theorem entBox_own (n B : Nat) (fr : Nat → EC → Act) (x : EC) (a' : Act) : OwnFrom B (fun (_ : Unit) W => ∃ Bx, n ≤ Bx ∧ EntBox W Bx x ∧ a' = fr Bx x) := by
  rintro _ X Y row ⟨Bx, h1, h2, h3⟩ hg hr
  refine ⟨Bx, h1, ?_, h3⟩
  unfold EntBox at *
  rw [hg.block Bx (lt_of_block h2) (fun e => by obtain ⟨_, o, ho, hc⟩ := hr Bx e.symm; rw [h2] at ho; cases ho; cases hc)]
  exact h2

theorem EntBox.cells {W : World} {B : Nat} {x : EC} (h : EntBox W B x) : W.cell? ⟨B, 0, none⟩ = some (S x.1.path) ∧ W.cell? ⟨B, 1, none⟩ = some (.int .i64 x.1.kind) ∧ W.cell? ⟨B, 2, none⟩ = some (.int .i64 x.1.mode) ∧ W.cell? ⟨B, 3, none⟩ = some (.int .i64 x.1.time) ∧
    W.cell? ⟨B, 4, none⟩ = some (.slice x.2.1 x.1.data.length x.2.2) ∧ W.cell? ⟨B, 5, none⟩ = some (S x.1.link) :=
  ⟨cell_of_block' h 0, cell_of_block' h 1, cell_of_block' h 2, cell_of_block' h 3, cell_of_block' h 4, cell_of_block' h 5⟩

set_option maxHeartbeats 4000000 in
set_option maxRecDepth 100000 in
theorem appendSeq_any (bt bp tb mb : Nat) (t : List Ent) (path : Pn.B) (wt w : World) (hT : TreeMem wt tb mb t) (hE : Env wt) (hw : Below wt.heap.size wt w) (hp : path.length < 4294967281)
    (hbt : w.cell? ⟨bt, 0, none⟩ = some (.pointer (some ⟨tb, 0, none⟩))) (hbw : bt < w.heap.size) (hbp : w.cell? ⟨bp, 0, none⟩ = some (S path)) (hbw2 : bp < w.heap.size) :
    Calls Tryd.prog 59 #[.slice none 0 0, .func (.func 52) #[] #[.pointer (some ⟨bt, 0, none⟩), .pointer (some ⟨bp, 0, none⟩)]] w (EntsOut (under t path) w) := by
  have hul : (under t path).length ≤ 4096 := by
    have h1 := hT.few
    have h2 : (under t path).length ≤ t.length := by
      unfold under; split
      · simp
      · exact List.length_filter_le _ _
    omega
  obtain ⟨u, hu⟩ : ∃ u, under t path = u := ⟨_, rfl⟩
  rw [hu] at hul ⊢
  have HU := Lib.hid hu
  have HT := Lib.hid hT
  have HE := Lib.hid hE
  have HW := Lib.hid hw
  have HBT := Lib.hid hbt
  have HBP := Lib.hid hbp
  clear hT hE hw hbt hbp hu
  refine (callsIn_wide (n := 3)).1 ?_
  refine callsIn_of_wp_marks Tryd.func59 rfl trivial ?_ rfl
  simp only [Tryd.ntmps59, List.size_toArray, List.length_cons, List.length_nil, Nat.reduceAdd, Nat.reduceSub, Array.replicate_succ, Array.replicate_zero, List.push_toArray, List.append_toArray, List.nil_append, List.cons_append]
  refine wpIn_wide.2 ?_
  go_wp2_with fail
  have hb0 := heap_alloc_new w (.cells #[.slice none 0 0] 29)
  have hB0 : Below w.heap.size w (w.alloc (.cells #[.slice none 0 0] 29)) := (Below.refl _ _).alloc (Nat.le_refl _) _
  have hz0 : (w.alloc (.cells #[.slice none 0 0] 29)).heap.size = w.heap.size + 1 := by simp
  generalize w.alloc (.cells #[.slice none 0 0] 29) = w1 at *
  have HB0 := Lib.hid hB0
  have hws := HW.out.size
  refine wpIn_wide.1 (range_give (F := Fence.wide) (n := 3) rfl (by omega) (gf := 52) (lb := #[.pointer (some ⟨bt, 0, none⟩), .pointer (some ⟨bp, 0, none⟩)]) rfl trivial (enters_of Tryd.func52 (by kernel_rfl) rfl)
    (walk_gives _ (by omega) bt bp tb mb t path (fun i => i = w.heap.size) wt w1 HT.out HE.out (HW.out.trans (hB0.mono hws)) hp (by rintro i rfl; omega) ((hB0.cell (p := ⟨bt, 0, none⟩) hbw).trans HBT.out) (by omega) ((hB0.cell (p := ⟨bp, 0, none⟩) hbw2).trans HBP.out) (by omega))
    (fun m pre x => WG.own _ _ m pre x) (fun _ => rfl) (SeqI w) (fun _ _ _ => False) (fun m => seqI_own w _ m (by omega)) (fun _ _ _ _ _ h _ _ => h.elim)
    (fun W' hb hs => ⟨none, 0, (hb.block _ (by omega)).trans hb0, EntsNew.nil _ _, by omega, hB0.trans (hb.mono (by omega))⟩)
    (fun x a' W => ∃ Bx, w.heap.size + 1 ≤ Bx ∧ EntBox W Bx x ∧ a' = { tmps := #[.slice none 0 0, .func (.func 52) #[] #[.pointer (some ⟨bt, 0, none⟩), .pointer (some ⟨bp, 0, none⟩)], .pointer (some ⟨w.heap.size, 0, none⟩), undef, .slice none 0 0, .pointer (some ⟨Bx, 0, none⟩), .func (.func 52) #[] #[.pointer (some ⟨bt, 0, none⟩), .pointer (some ⟨bp, 0, none⟩)], entV x.1 x.2.1 x.2.2, undef, undef, undef, undef, undef], defers := [] }) (entBox_own _ _ _) ?assign ?body ?done ?stop)
  case assign =>
    intro l m pre x W K hm hm2 hK
    gi_wp2
    exact hK _ _ ((Below.refl _ W).alloc (Nat.le_refl _) _) ⟨W.heap.size, by omega, heap_alloc_new W _, rfl⟩
  case body =>
    rintro l m pre x a' W hl ⟨r, hr⟩ ⟨va, vc, hbx, hnew, hmm, hbel⟩ hG hmW hm2 ⟨Bx, hBx, hE, rfl⟩
    obtain ⟨x0, x1, x2, x3, x4, x5⟩ := hE.cells
    have c0 := cell_of_block' hbx 0
    have f0 := free_of_block hbx 0
    simp at c0
    have hlen : pre.length + 1 ≤ 4294967281 := by have := hG.lt; rw [HU.out] at this; omega
    obtain ⟨va', vc', w5, hrun, hnew5, hk5, hg5, hrow5⟩ := new_app hnew hmW x ⟨hG.cap, hG.bytes, hG.fresh⟩ hlen
    have hb5 : w5.heap[w.heap.size]? = some (.cells #[.slice va pre.length vc] 29) := by
      rw [hg5.block _ (lt_of_block hbx) (fun e => by have := (hrow5 _ e.symm).1; omega)]; exact hbx
    have c5 := cell_of_block' hb5 0
    have f5 := free_of_block hb5 0
    simp at c5
    have HRUN := Lib.hid hrun
    have HFIN := Lib.hid (show SeqI w m (pre ++ [x]) (w5.setCell ⟨w.heap.size, 0, none⟩ (.slice va' (pre.length + 1) vc')) from ⟨va', vc', by rw [block_set hb5 0 _]; simp, hnew5.set _ _ _ hmm, hmm, (hbel.grown hg5 hbel.size (fun k e => by have := (hrow5 k e).1; omega)).setCell (Nat.le_refl _) _⟩)
    have HKF := Lib.hid ((hk5.trans (KeepsOthers.setCell w5 ⟨w.heap.size, 0, none⟩ (.slice va' (pre.length + 1) vc'))).from w1.heap.size)
    have HKP := Lib.hid ((Kept.of_grown (C := fun i => i = w.heap.size) hg5 hmW (fun r e => .inr (hrow5 r e).1)).trans (Kept.setCell w5 (p := ⟨w.heap.size, 0, none⟩) (.slice va' (pre.length + 1) vc') (.inl rfl)))
    clear hrun hnew5 hk5 hg5 hrow5 hb5 hnew hbx hE hG hr hbel
    gi_wp2_with (gi_at_builtin; refine wpListIn_append_run rfl _ _ 29 rfl _ _ rfl rfl _ _ rfl HRUN.out ?_)
    exact ⟨HKF.out, HKP.out, HFIN.out⟩
  case done =>
    rintro D m ys W hD hys ⟨va, vc, hbx, hnew, hmm, hbel⟩ hK
    have c0 := cell_of_block' hbx 0
    simp at c0
    have HN := Lib.hid hnew
    have HK := Lib.hid hK
    have HBE := Lib.hid hbel
    have HYS := Lib.hid (hys.trans HU.out)
    have hyl : u.length = ys.length := by rw [← HYS.out]; simp
    clear hnew hK hbel hys
    go_wp2_with fail
    refine ⟨by simp, .inl ⟨_, _, rfl, run_takeDeferred HK.out, ?_⟩⟩
    refine ⟨.slice va ys.length vc, by simp [results, Tryd.results59, go_sem], ?_⟩
    refine ⟨va, vc, ys, by rw [hyl], ?_, HYS.out, HBE.out.trans (belowK_b (w := w) (Nat.le_refl _) W D _ _ (by omega) HK.out rfl rfl)⟩
    exact ((HN.out.mono (by omega)).kept (grownBy_putObj' _ D (.deferred none)) (fun r e => by cases e; exact ⟨_, HK.out, rfl⟩))
  case stop =>
    rintro D c pre W _ _ h _
    exact h.elim

set_option maxRecDepth 100000 in
theorem collect_any (bt bp tb mb : Nat) (t : List Ent) (path : Pn.B) (wt w : World) (hT : TreeMem wt tb mb t) (hE : Env wt) (hw : Below wt.heap.size wt w) (hp : path.length < 4294967281)
    (hbt : w.cell? ⟨bt, 0, none⟩ = some (.pointer (some ⟨tb, 0, none⟩))) (hbw : bt < w.heap.size) (hbp : w.cell? ⟨bp, 0, none⟩ = some (S path)) (hbw2 : bp < w.heap.size) :
    Calls Tryd.prog 36 #[.func (.func 52) #[] #[.pointer (some ⟨bt, 0, none⟩), .pointer (some ⟨bp, 0, none⟩)]] w (EntsOut (under t path) w) := by
  have HA := Lib.hid (appendSeq_any bt bp tb mb t path wt w hT hE hw hp hbt hbw hbp hbw2)
  clear hT hE hw hbt hbp
  go_enter Tryd.func36, Tryd.ntmps36
  go_wp2_with fail
  refine HA.out.mono ?_
  rintro e w1 ⟨va, vc, l, rfl, h1, h2, h3⟩
  have H1 := Lib.hid h1
  have H2 := Lib.hid h2
  have H3 := Lib.hid h3
  clear h1 h2 h3
  go_wp2_with fail
  go_ret
  exact ⟨va, vc, l, rfl, H1.out, H2.out, H3.out⟩

theorem under_root {t : List Ent} (hg : ∀ e ∈ t, e.valid = true) : under t [] = t := by
  rw [under_eq (.inr rfl), List.filter_eq_self]
  intro e he
  unfold Pn.withinP
  rw [valid_path (hg e he)]
  simp

set_option maxRecDepth 100000 in
/-- Entries. -/
theorem entries_any (t : List Ent) (tb mb : Nat) (w : World) (hT : TreeMem w tb mb t) (hE : Env w) :
    Calls Tryd.prog 15 #[.pointer (some ⟨tb, 0, none⟩)] w (EntsOut t w) := by
  obtain ⟨q0, q1⟩ := two_new (w := w) (.cells #[.pointer (some ⟨tb, 0, none⟩)] 30) (.cells #[S []] 9)
  have hB : Below w.heap.size w ((w.alloc (.cells #[.pointer (some ⟨tb, 0, none⟩)] 30)).alloc (.cells #[S []] 9)) := ((Below.refl _ _).alloc (Nat.le_refl _) _).alloc (by simp) _
  have hz : ((w.alloc (.cells #[.pointer (some ⟨tb, 0, none⟩)] 30)).alloc (.cells #[S []] 9)).heap.size = w.heap.size + 2 := by simp
  have HC := Lib.hid (collect_any w.heap.size (w.heap.size + 1) tb mb t [] w _ hT hE hB (by simp) (cell_of_block' q0 0) (by omega) (cell_of_block' q1 0) (by omega))
  rw [under_root hT.good] at HC
  have HB := Lib.hid hB
  have HZ := Lib.hid hz
  have HW := Lib.hid (walk_any tb [] w)
  clear hT hE q0 q1 hB hz
  go_enter Tryd.func15, Tryd.ntmps15
  go_wp2_with fail
  refine HW.out.mono ?_
  rintro e w1 ⟨rfl, hw1⟩
  rw [hw1]; clear hw1
  go_wp2_with fail
  refine HC.out.mono ?_
  rintro e w1 ⟨va, vc, l, rfl, h1, h2, h3⟩
  have H1 := Lib.hid h1
  have H2 := Lib.hid h2
  have H3 := Lib.hid h3
  clear h1 h2 h3
  go_wp2_with fail
  go_ret
  exact ⟨va, vc, l, rfl, H1.out.mono (by rw [HZ.out]; omega), H2.out, HB.out.trans (H3.out.mono (by rw [HZ.out]; omega))⟩

end Go.Proofs.YtdcghpeomaailaaDoor
