/-
  The walk of (*Tree).List.
-/
import Derived.Test.YtdcghpeomaailaaDoorFtColl
import Derived.Test.YtdcghpeomaailaaDoorLawKids
import Derived.Test.YtdcghpeomaailaaDoorQuieter
namespace Go.Proofs.YtdcghpeomaailaaDoor
open Go.RowKit Go.Lib Go.Shelf Ft

attribute [local go_sem] Oper.semAt_some

/-- What List leaves. -/
def ListOk (t : List Ent) (dir : Pn.B) (w : World) (e' : Ending) (w' : World) : Prop :=
  (listE t dir ≠ 0 ∧ e' = .returned (.tuple #[.slice none 0 0, .int .i64 (listE t dir)]) ∧ Below w.heap.size w w') ∨
  (listE t dir = 0 ∧ ∃ va vc l, e' = .returned (.tuple #[.slice va (kidsOf t dir).length vc, .int .i64 0]) ∧ EntsNew w.heap.size w' va vc l ∧ l.map Prod.fst = kidsOf t dir ∧ Below w.heap.size w w')

/-- Between two rounds. -/
def ListI (dir : Pn.B) (w : World) (B : Nat) (m : Nat) (pre : List EC) (W : World) : Prop :=
  ∃ va vc, W.heap[B]? = some (.cells #[.slice va (pre.filter fun x => kidB dir x.1).length vc] 29) ∧ EntsNew m W va vc (pre.filter fun x => kidB dir x.1) ∧ w.heap.size < B ∧ B < m ∧ Below w.heap.size w W ∧ W.heap[w.heap.size]? = some (.cells #[S dir] 9)

theorem listI_own (dir : Pn.B) (w : World) (b B m : Nat) (hB : w.heap.size ≤ B) : OwnFrom B (ListI dir w b m) := by
  rintro pre X Y row ⟨va, vc, h1, h2, h3, h4, h5, h6⟩ hg hr
  refine ⟨va, vc, ?_, h2.kept hg (fun r e => (hr r e).2), h3, h4, h5.grown hg h5.size (fun k e => Nat.le_trans hB (hr k e).1), ?_⟩
  · rw [hg.block _ (lt_of_block h1) (fun e => by obtain ⟨_, o, ho, hc⟩ := hr _ e.symm; rw [h1] at ho; cases ho; cases hc)]
    exact h1
  · rw [hg.block _ (lt_of_block h6) (fun e => by obtain ⟨_, o, ho, hc⟩ := hr _ e.symm; rw [h6] at ho; cases ho; cases hc)]
    exact h6

theorem filter_map_fst (l : List EC) (p : Ent → Bool) : (l.filter fun x => p x.1).map Prod.fst = (l.map Prod.fst).filter p := by
  rw [List.filter_map]; rfl

/-- One more. -/
theorem list_kid {t : List Ent} {dir : Pn.B} {w : World} {B n m : Nat} {pre : List EC} {x : EC} {W w5 : World} {Bx : Nat} (hI : ListI dir w B m pre W) (hG : WG (under t dir) m pre x W) (hmW : m ≤ W.heap.size) (hb : Below W.heap.size W w5)
    (hk : kidB dir x.1 = true) (hlen : pre.length + 1 ≤ 4294967281) (hEB : EntBox W Bx x) :
    ∃ va vc va' vc' w6, w5.heap[B]? = some (.cells #[.slice va (pre.filter fun y => kidB dir y.1).length vc] 29) ∧ EntBox w5 Bx x ∧
      (Builtin.append_ #[29, 29] 29 #[.slice va (pre.filter fun y => kidB dir y.1).length vc, .slice (some ⟨w5.heap.size, 0, none⟩) 1 1]).run Tryd.prog (w5.alloc (.cells (entCells x.1 x.2.1 x.2.2).toArray 25)) = .ok (.slice va' ((pre.filter fun y => kidB dir y.1).length + 1) vc') w6 ∧
      w6.heap[B]? = some (.cells #[.slice va (pre.filter fun y => kidB dir y.1).length vc] 29) ∧
      KeepsFrom n W (w6.setCell ⟨B, 0, none⟩ (.slice va' ((pre.filter fun y => kidB dir y.1).length + 1) vc')) ∧ Kept (fun i => i = B) m W (w6.setCell ⟨B, 0, none⟩ (.slice va' ((pre.filter fun y => kidB dir y.1).length + 1) vc')) ∧
      ListI dir w B m (pre ++ [x]) (w6.setCell ⟨B, 0, none⟩ (.slice va' ((pre.filter fun y => kidB dir y.1).length + 1) vc')) := by
  obtain ⟨va, vc, hbx, hnew, hwB, hmm, hbel, hdb⟩ := hI
  have hkf : (pre ++ [x]).filter (fun y => kidB dir y.1) = (pre.filter fun y => kidB dir y.1) ++ [x] := by
    rw [List.filter_append]; simp [hk]
  have hfl : (pre.filter fun y => kidB dir y.1).length ≤ pre.length := List.length_filter_le _ _
  have hb5 : w5.heap[B]? = some (.cells #[.slice va (pre.filter fun y => kidB dir y.1).length vc] 29) := (hb.block _ (lt_of_block hbx)).trans hbx
  have hm5 : m ≤ w5.heap.size := Nat.le_trans hmW hb.size
  obtain ⟨va', vc', w6, hrun, hnew6, hk6, hg6, hrow6⟩ := new_app (hnew.below hb) hm5 x ⟨hG.cap, hG.bytes.below hb, fun a ha => ⟨(hG.fresh a ha).1, (hG.fresh a ha).2.kept (grown_below hb none) (fun e => by cases e)⟩⟩ (by omega)
  have hb6 : w6.heap[B]? = some (.cells #[.slice va (pre.filter fun y => kidB dir y.1).length vc] 29) := by
    rw [hg6.block _ (lt_of_block hb5) (fun e => by have := (hrow6 _ e.symm).1; omega)]; exact hb5
  have hd5 := (hb.block _ (lt_of_block hdb)).trans hdb
  have hwn := hbel.size
  have hd6 : w6.heap[w.heap.size]? = some (.cells #[S dir] 9) := by
    rw [hg6.block _ (lt_of_block hd5) (fun e => by have := (hrow6 _ e.symm).1; omega)]; exact hd5
  have hk5 : KeepsOthers W w5 := keeps_grown (grown_below hb none) (fun r e => by cases e)
  refine ⟨va, vc, va', vc', w6, hb5, (hb.block _ (lt_of_block hEB)).trans hEB, hrun, hb6, ?_, ?_, va', vc', ?_, ?_, hwB, hmm, ?_, ?_⟩
  · exact ((hk5.trans hk6).trans (KeepsOthers.setCell w6 _ _)).from n
  · exact ((Kept.of_below hb hmW).trans (Kept.of_grown (C := fun i => i = B) hg6 hm5 (fun r e => .inr (hrow6 r e).1))).trans (Kept.setCell w6 (p := ⟨B, 0, none⟩) _ (.inl rfl))
  · rw [block_set hb6 0 _, hkf]; simp
  · rw [hkf]; exact hnew6.set _ _ _ hmm
  · exact ((below_then hbel hb).grown hg6 (by omega) (fun k e => by have := (hrow6 k e).1; omega)).setCell (by simp; omega) _
  · exact (Below.heap_setCell _ _ _ _ (by simp; omega)).trans hd6

set_option maxHeartbeats 4000000 in
set_option maxRecDepth 100000 in
theorem list_any (t : List Ent) (tb mb : Nat) (dir : Pn.B) (w : World) (hT : TreeMem w tb mb t) (hE : Env w) (hd : dir.length < 4294960000) :
    Calls Tryd.prog 25 #[.pointer (some ⟨tb, 0, none⟩), S dir] w (ListOk t dir w) := by
  have hbA : Below w.heap.size w (w.alloc (.cells #[S dir] 9)) := (Below.refl _ _).alloc (Nat.le_refl _) _
  have hN := heap_alloc_new w (.cells #[S dir] 9)
  have HVA := Lib.hid (valid_any ⟨dir.toArray⟩ _ (show dir.length < _ by omega) (hE.below hbA))
  rw [show (⟨dir.toArray⟩ : ByteArray).data.toList = dir from rfl] at HVA
  have HUL := Lib.hid (show (under t dir).length ≤ 4096 from Nat.le_trans (by unfold under; split <;> simp [List.length_filter_le]) hT.few)
  have HBE := Lib.hid fun w (h : TreeMem w tb mb t) => below_any t tb mb dir w h (by omega)
  have HT := Lib.hid hT
  have HE := Lib.hid hE
  have HN := Lib.hid hN
  have HA := Lib.hid hbA
  clear hT hE hbA hN
  refine (callsIn_wide (n := 5)).1 ?_
  refine callsIn_of_wp_marks Tryd.func25 rfl trivial ?_ rfl
  simp only [Tryd.ntmps25, List.size_toArray, List.length_cons, List.length_nil, Nat.reduceAdd, Nat.reduceSub, Array.replicate_succ, Array.replicate_zero, List.push_toArray, List.append_toArray, List.nil_append, List.cons_append]
  refine wpIn_wide.2 ?_
  by_cases hbad : dir ≠ [] ∧ Pn.validP dir = false
  · have hr : listE t dir = 1 := by unfold listE; rw [if_pos hbad]
    have hq : (dir == []) = false := beq_eq_false_iff_ne.2 hbad.1
    have hqn : (dir != []) = true := by rw [bne_iff_ne]; exact hbad.1
    rw [hbad.2] at HVA
    have HR := Lib.hid hr
    clear hbad hr
    go_wp2_with fail
    refine HVA.out.mono ?_
    rintro e w1 ⟨rfl, hb⟩
    have HB := Lib.hid (below_then HA.out hb)
    clear hb
    go_wp2_with fail
    exact ⟨.tuple #[.slice none 0 0, .int .i64 1], by simp [results, Tryd.results25, go_sem], .inl ⟨by rw [HR.out]; decide, by rw [HR.out], HB.out⟩⟩
  have hle : listE t dir = belowE t dir := by unfold listE; rw [if_neg hbad]
  have hcase : ((dir == []) = true ∧ (dir != []) = false) ∨ ((dir == []) = false ∧ (dir != []) = true ∧ Pn.validP dir = true) := by
    by_cases h0 : dir = []
    · exact .inl ⟨by rw [h0]; rfl, by rw [h0]; rfl⟩
    · refine .inr ⟨beq_eq_false_iff_ne.2 h0, by rw [bne_iff_ne]; exact h0, ?_⟩
      cases h : Pn.validP dir with
      | true => rfl
      | false => exact absurd ⟨h0, h⟩ hbad
  have HR := Lib.hid hle
  clear hle hbad
  rcases hcase with ⟨hq, hqn⟩ | ⟨hq, hqn, hv⟩
  · (go_wp2_with fail; have hc := cell_of_block' HN.out 0; simp at hc)
    refine (HBE.out _ (HT.out.below HA.out)).mono ?_
    rintro e w1 ⟨rfl, hb⟩
    have HA := Lib.hid (below_then HA.out hb)
    have HN := Lib.hid ((hb.block _ (lt_of_block HN.out)).trans HN.out)
    have hc1 := cell_of_block' HN.out 0
    simp at hc1
    clear hb hc
    by_cases hbe : belowE t dir = 0
    · have hz : (belowE t dir != 0) = false := by rw [hbe]; rfl
      rw [hbe] at hz ⊢
      have H0 := Lib.hid (HR.out.trans hbe)
      clear hbe
      have hc2 := (((Below.refl _ w1).alloc (Nat.le_refl _) (.cells #[.slice none 0 0] 29)).cell (p := ⟨w.heap.size, 0, none⟩) (lt_of_block HN.out)).trans hc1
      go_wp2_with fail
      refine (walk_any tb dir _).mono ?_
      rintro e w3 ⟨rfl, hw3⟩
      obtain ⟨q0, q1⟩ := two_new (w := w1.alloc (.cells #[.slice none 0 0] 29)) (.cells #[.pointer (some ⟨tb, 0, none⟩)] 30) (.cells #[S dir] 9)
      have hb0 := heap_alloc_new w1 (.cells #[.slice none 0 0] 29)
      have hbx : w3.heap[w1.heap.size]? = some (.cells #[.slice none 0 0] 29) := by
        rw [hw3]; exact ((((Below.refl _ _).alloc (Nat.le_refl _) _).alloc (by simp) _).block _ (lt_of_block hb0)).trans hb0
      rw [← hw3] at q0 q1
      have hz3 : w3.heap.size = w1.heap.size + 3 := by rw [hw3]; simp
      have hB3 : Below w1.heap.size w1 w3 := by rw [hw3]; exact (((Below.refl _ w1).alloc (Nat.le_refl _) _).alloc (by simp) _).alloc (by simp; omega) _
      have hB : Below w.heap.size w w3 := below_then HA.out hB3
      have hwz := HA.out.size
      clear hw3 hb0
      have hN3 := (hB3.block _ (lt_of_block HN.out)).trans HN.out
      have hc3 := (hB3.cell (p := ⟨w.heap.size, 0, none⟩) (lt_of_block HN.out)).trans hc1
      have hsz2 : (w1.alloc (.cells #[.slice none 0 0] 29)).heap.size = w1.heap.size + 1 := by simp
      rw [hsz2] at q0 q1 ⊢
      have HB := Lib.hid hB
      have HBX := Lib.hid hbx
      clear hB hbx hB3 hsz2 hc1 hc2
      go_wp2_with fail
      have HQ0 := Lib.hid q0
      have HQ1 := Lib.hid q1
      have HN3 := Lib.hid hN3
      clear hc3 q0 q1 hN3
      refine wpIn_wide.1 (range_give (F := Fence.wide) (n := 5) rfl (by omega) (gf := 52) (lb := #[.pointer (some ⟨w1.heap.size + 1, 0, none⟩), .pointer (some ⟨w1.heap.size + 1 + 1, 0, none⟩)]) rfl trivial (enters_of Tryd.func52 (by kernel_rfl) rfl)
        (walk_gives _ (by omega) (w1.heap.size + 1) (w1.heap.size + 1 + 1) tb mb t dir (fun i => i = w1.heap.size) w w3 HT.out HE.out HB.out (by omega) (by rintro i rfl; omega) (cell_of_block' HQ0.out 0) (by omega) (cell_of_block' HQ1.out 0) (by omega))
        (fun m pre x => WG.own _ _ m pre x) (fun _ => rfl) (ListI dir w w1.heap.size) (fun _ _ _ => False) (fun m => listI_own dir w _ _ m (by omega)) (fun _ _ _ _ _ h _ _ => h.elim)
        (fun W' hb hs => ⟨none, 0, (hb.block _ (by omega)).trans HBX.out, EntsNew.nil _ _, Nat.lt_of_lt_of_le (lt_of_block HN.out) (Nat.le_refl _), by omega, HB.out.trans (hb.mono (by omega)), (hb.block _ (by omega)).trans HN3.out⟩)
        (fun x a' W => ∃ Bx, w3.heap.size ≤ Bx ∧ EntBox W Bx x ∧ a' = { tmps := #[.pointer (some ⟨tb, 0, none⟩), S dir, undef, .pointer (some ⟨w.heap.size, 0, none⟩), .slice none 0 0, .int .i64 0, .int .i64 0, .pointer (some ⟨w1.heap.size, 0, none⟩), .pointer (some ⟨Bx, 0, none⟩), S dir, .bool false, .bool false, undef, undef, undef, .bool false, .pointer (some ⟨tb, 0, none⟩), S dir, .int .i64 0, .int .i64 0, .bool false, undef, .pointer (some ⟨tb, 0, none⟩), S dir, .func (.func 52) #[] #[.pointer (some ⟨w1.heap.size + 1, 0, none⟩), .pointer (some ⟨w1.heap.size + 1 + 1, 0, none⟩)], entV x.1 x.2.1 x.2.2, undef, undef, undef, undef, undef, undef, undef, undef, undef, undef, undef, undef, undef, undef, undef, undef], defers := [] }) (entBox_own _ _ _) ?assign ?body ?done ?stop)
      case assign =>
        intro l m pre x W K hm hm2 hK
        gi_wp2
        exact hK _ _ ((Below.refl _ W).alloc (Nat.le_refl _) _) ⟨W.heap.size, by omega, heap_alloc_new W _, rfl⟩
      case body =>
        rintro l m pre x a' W hl ⟨r, hr⟩ ⟨va, vc, hbx, hnew, hwB, hmm, hbel, hdb⟩ hG hmW hm2 ⟨Bx, hBx, hEB, rfl⟩
        have hEB0 := hEB
        obtain ⟨x0, x1, x2, x3, x4, x5⟩ := hEB.cells
        have cd := cell_of_block' hdb 0
        simp at cd
        have hmx : Tryd.prog.follows .mixedOrders = true := by kernel_rfl
        have hmem : x.1 ∈ under t dir := by rw [hG.is]; exact List.getElem_mem _
        have hxv := HT.out.good _ (under_sub hmem).1
        have hpl := valid_path_len hxv
        have HPAR := Lib.hid (parentP_any x.1.path W.drew (HE.out.below (hbel.drew)) (by omega))
        rw [valid_path hxv, if_pos rfl] at HPAR
        by_cases hp : x.1.path = dir
        · have hq1 : (x.1.path == dir) = true := by rw [beq_iff_eq]; exact hp
          have hq2 : (x.1.path != dir) = false := by rw [hp]; simp
          have hkf : (pre ++ [x]).filter (fun y => kidB dir y.1) = pre.filter fun y => kidB dir y.1 := by
            rw [List.filter_append]; simp [kidB, hp]
          have HFIN := Lib.hid (show ListI dir w w1.heap.size m (pre ++ [x]) W.drew from ⟨va, vc, by rw [hkf]; exact hbx, by rw [hkf]; exact hnew.below (Below.refl _ _).drew, hwB, hmm, hbel.drew, hdb⟩)
          clear hnew hG hmem hxv hkf hp hbel hEB
          gi_wp2_with fail
          gi_region_with_o (refine ⟨trivial, ?_⟩)
          all_goals gi_wp2_with fail
          all_goals exact ⟨(keeps_grown (grown_below (Below.refl _ _).drew none) (fun r e => by cases e)).from _, Kept.drew W, HFIN.out⟩
        · have hq1 : (x.1.path == dir) = false := beq_eq_false_iff_ne.2 hp
          have hq2 : (x.1.path != dir) = true := by rw [bne_iff_ne]; exact hp
          have hI0 : ListI dir w w1.heap.size m pre W := ⟨va, vc, hbx, hnew, hwB, hmm, hbel, hdb⟩
          have hcd := Lib.hid fun w5 (hb5 : Below W.drew.heap.size W.drew w5) => (hb5.cell (p := ⟨w.heap.size, 0, none⟩) (lt_of_block hdb)).trans cd
          by_cases hpq : Pn.parentP x.1.path = dir
          · have hq3 : (Pn.parentP x.1.path == dir) = true := by rw [beq_iff_eq]; exact hpq
            have HST := Lib.hid fun w5 hb5 => list_kid (n := w3.heap.size) (x := x) (w5 := w5) hI0 hG hmW (below_then (Below.refl _ W).drew hb5) (by unfold kidB; rw [hq2, hq3]; rfl) (Nat.le_of_lt (by have h1 := hG.lt; have h2 := HUL.out; omega)) hEB0
            clear hnew hG hmem hxv hp hbel hEB hpq hI0
            gi_wp2_with fail
            gi_region_with_o (refine ⟨trivial, ((callsIn_wide.2 HPAR.out).inRound l).mono ?_⟩; rintro e' w5 ⟨rfl, hb5⟩; have hd5 := hcd.out w5 hb5)
            all_goals obtain ⟨ua, uc, ua', uc', w6, g1, g2, g3, g4, g5, g6, g7⟩ := HST.out w5 hb5
            all_goals obtain ⟨y0, y1, y2, y3, y4, y5⟩ := g2.cells
            all_goals have c0 := cell_of_block' g1 0
            all_goals have c6 := cell_of_block' g4 0
            all_goals have f6 := free_of_block g4 0
            all_goals simp at c0 c6
            all_goals have HRUN := Lib.hid g3
            all_goals have HEND := Lib.hid (show _ ∧ _ ∧ _ from ⟨g5, g6, g7⟩)
            all_goals clear x0 x1 x2 x3 x4 x5 hbx hdb cd hEB0 g1 g2 g3 g4 g5 g6 g7 hb5 hr
            all_goals gi_wp2_with (gi_at_builtin; refine wpListIn_append_run rfl _ _ 29 rfl _ _ rfl rfl _ _ rfl HRUN.out ?_)
            all_goals exact HEND.out
          · have hq3 : (Pn.parentP x.1.path == dir) = false := beq_eq_false_iff_ne.2 hpq
            have hkf : (pre ++ [x]).filter (fun y => kidB dir y.1) = pre.filter fun y => kidB dir y.1 := by
              rw [List.filter_append]; simp [kidB, hpq]
            have HFIN := Lib.hid fun w5 (hb5 : Below W.drew.heap.size W.drew w5) => (⟨va, vc, by rw [hkf, hb5.block _ (lt_of_block hbx)]; exact hbx, by rw [hkf]; exact hnew.below (below_then (Below.refl _ W).drew hb5), hwB, hmm, below_then hbel (below_then (Below.refl _ W).drew hb5), (hb5.block _ (lt_of_block hdb)).trans hdb⟩ : ListI dir w w1.heap.size m (pre ++ [x]) w5)
            clear hnew hG hmem hxv hp hbel hEB hkf hpq hI0
            gi_wp2_with fail
            gi_region_with_o (refine ⟨trivial, ((callsIn_wide.2 HPAR.out).inRound l).mono ?_⟩; rintro e' w5 ⟨rfl, hb5⟩; have hd5 := hcd.out w5 hb5)
            all_goals gi_wp2_with fail
            all_goals exact ⟨(keeps_grown (grown_below (below_then (Below.refl _ W).drew hb5) none) (fun r e => by cases e)).from _, Kept.of_below (below_then (Below.refl _ W).drew hb5) hmW, HFIN.out _ hb5⟩
      case done =>
        rintro D m ys W hD hys ⟨va, vc, hbx, hnew, hwB, hmm, hbel, hdb⟩ hK
        have c0 := cell_of_block' hbx 0
        simp at c0
        have HN := Lib.hid hnew
        have HK := Lib.hid hK
        have HBE := Lib.hid hbel
        have HKS := Lib.hid (show (ys.filter fun y => kidB dir y.1).map Prod.fst = kidsOf t dir by rw [filter_map_fst, hys]; rfl)
        have hyl : (kidsOf t dir).length = (ys.filter fun y => kidB dir y.1).length := by rw [← HKS.out]; simp
        clear hnew hK hbel hys hdb
        go_wp2_with fail
        refine ⟨by simp, .inl ⟨_, _, rfl, run_takeDeferred HK.out, ?_⟩⟩
        refine ⟨.tuple #[.slice va (ys.filter fun y => kidB dir y.1).length vc, .int .i64 0], by simp [results, Tryd.results25, go_sem], .inr ⟨H0.out, va, vc, _, by rw [hyl], ?_, HKS.out, HBE.out.trans (belowK_b (w := w) (Nat.le_refl _) W D _ _ (by omega) HK.out rfl rfl)⟩⟩
        exact ((HN.out.mono (by omega)).kept (grownBy_putObj' _ D (.deferred none)) (fun r e => by cases e; exact ⟨_, HK.out, rfl⟩))
      case stop =>
        rintro D c pre W _ _ h _
        exact h.elim
    · have hz : (belowE t dir != 0) = true := by rw [bne_iff_ne]; exact hbe
      rw [← HR.out] at hbe hz ⊢
      go_wp2_with fail
      exact ⟨.tuple #[.slice none 0 0, .int .i64 (listE t dir)], by simp [results, Tryd.results25, go_sem], .inl ⟨hbe, rfl, HA.out⟩⟩
  · (rw [hv] at HVA; go_wp2_with fail; refine HVA.out.mono ?_; rintro e w2 ⟨rfl, hb⟩; have HA := Lib.hid (below_then HA.out hb); have HN := Lib.hid ((hb.block _ (lt_of_block HN.out)).trans HN.out); have hc := cell_of_block' HN.out 0; simp at hc; clear hb; go_wp2_with fail)
    refine (HBE.out _ (HT.out.below HA.out)).mono ?_
    rintro e w1 ⟨rfl, hb⟩
    have HA := Lib.hid (below_then HA.out hb)
    have HN := Lib.hid ((hb.block _ (lt_of_block HN.out)).trans HN.out)
    have hc1 := cell_of_block' HN.out 0
    simp at hc1
    clear hb hc
    by_cases hbe : belowE t dir = 0
    · have hz : (belowE t dir != 0) = false := by rw [hbe]; rfl
      rw [hbe] at hz ⊢
      have H0 := Lib.hid (HR.out.trans hbe)
      clear hbe
      have hc2 := (((Below.refl _ w1).alloc (Nat.le_refl _) (.cells #[.slice none 0 0] 29)).cell (p := ⟨w.heap.size, 0, none⟩) (lt_of_block HN.out)).trans hc1
      go_wp2_with fail
      refine (walk_any tb dir _).mono ?_
      rintro e w3 ⟨rfl, hw3⟩
      obtain ⟨q0, q1⟩ := two_new (w := w1.alloc (.cells #[.slice none 0 0] 29)) (.cells #[.pointer (some ⟨tb, 0, none⟩)] 30) (.cells #[S dir] 9)
      have hb0 := heap_alloc_new w1 (.cells #[.slice none 0 0] 29)
      have hbx : w3.heap[w1.heap.size]? = some (.cells #[.slice none 0 0] 29) := by
        rw [hw3]; exact ((((Below.refl _ _).alloc (Nat.le_refl _) _).alloc (by simp) _).block _ (lt_of_block hb0)).trans hb0
      rw [← hw3] at q0 q1
      have hz3 : w3.heap.size = w1.heap.size + 3 := by rw [hw3]; simp
      have hB3 : Below w1.heap.size w1 w3 := by rw [hw3]; exact (((Below.refl _ w1).alloc (Nat.le_refl _) _).alloc (by simp) _).alloc (by simp; omega) _
      have hB : Below w.heap.size w w3 := below_then HA.out hB3
      have hwz := HA.out.size
      clear hw3 hb0
      have hN3 := (hB3.block _ (lt_of_block HN.out)).trans HN.out
      have hc3 := (hB3.cell (p := ⟨w.heap.size, 0, none⟩) (lt_of_block HN.out)).trans hc1
      have hsz2 : (w1.alloc (.cells #[.slice none 0 0] 29)).heap.size = w1.heap.size + 1 := by simp
      rw [hsz2] at q0 q1 ⊢
      have HB := Lib.hid hB
      have HBX := Lib.hid hbx
      clear hB hbx hB3 hsz2 hc1 hc2
      go_wp2_with fail
      have HQ0 := Lib.hid q0
      have HQ1 := Lib.hid q1
      have HN3 := Lib.hid hN3
      clear hc3 q0 q1 hN3
      refine wpIn_wide.1 (range_give (F := Fence.wide) (n := 5) rfl (by omega) (gf := 52) (lb := #[.pointer (some ⟨w1.heap.size + 1, 0, none⟩), .pointer (some ⟨w1.heap.size + 1 + 1, 0, none⟩)]) rfl trivial (enters_of Tryd.func52 (by kernel_rfl) rfl)
        (walk_gives _ (by omega) (w1.heap.size + 1) (w1.heap.size + 1 + 1) tb mb t dir (fun i => i = w1.heap.size) w w3 HT.out HE.out HB.out (by omega) (by rintro i rfl; omega) (cell_of_block' HQ0.out 0) (by omega) (cell_of_block' HQ1.out 0) (by omega))
        (fun m pre x => WG.own _ _ m pre x) (fun _ => rfl) (ListI dir w w1.heap.size) (fun _ _ _ => False) (fun m => listI_own dir w _ _ m (by omega)) (fun _ _ _ _ _ h _ _ => h.elim)
        (fun W' hb hs => ⟨none, 0, (hb.block _ (by omega)).trans HBX.out, EntsNew.nil _ _, Nat.lt_of_lt_of_le (lt_of_block HN.out) (Nat.le_refl _), by omega, HB.out.trans (hb.mono (by omega)), (hb.block _ (by omega)).trans HN3.out⟩)
        (fun x a' W => ∃ Bx, w3.heap.size ≤ Bx ∧ EntBox W Bx x ∧ a' = { tmps := #[.pointer (some ⟨tb, 0, none⟩), S dir, undef, .pointer (some ⟨w.heap.size, 0, none⟩), .slice none 0 0, .int .i64 0, .int .i64 0, .pointer (some ⟨w1.heap.size, 0, none⟩), .pointer (some ⟨Bx, 0, none⟩), S dir, .bool true, .bool true, S dir, .bool true, .bool false, .bool false, .pointer (some ⟨tb, 0, none⟩), S dir, .int .i64 0, .int .i64 0, .bool false, undef, .pointer (some ⟨tb, 0, none⟩), S dir, .func (.func 52) #[] #[.pointer (some ⟨w1.heap.size + 1, 0, none⟩), .pointer (some ⟨w1.heap.size + 1 + 1, 0, none⟩)], entV x.1 x.2.1 x.2.2, undef, undef, undef, undef, undef, undef, undef, undef, undef, undef, undef, undef, undef, undef, undef, undef], defers := [] }) (entBox_own _ _ _) ?assign ?body ?done ?stop)
      case assign =>
        intro l m pre x W K hm hm2 hK
        gi_wp2
        exact hK _ _ ((Below.refl _ W).alloc (Nat.le_refl _) _) ⟨W.heap.size, by omega, heap_alloc_new W _, rfl⟩
      case body =>
        rintro l m pre x a' W hl ⟨r, hr⟩ ⟨va, vc, hbx, hnew, hwB, hmm, hbel, hdb⟩ hG hmW hm2 ⟨Bx, hBx, hEB, rfl⟩
        have hEB0 := hEB
        obtain ⟨x0, x1, x2, x3, x4, x5⟩ := hEB.cells
        have cd := cell_of_block' hdb 0
        simp at cd
        have hmx : Tryd.prog.follows .mixedOrders = true := by kernel_rfl
        have hmem : x.1 ∈ under t dir := by rw [hG.is]; exact List.getElem_mem _
        have hxv := HT.out.good _ (under_sub hmem).1
        have hpl := valid_path_len hxv
        have HPAR := Lib.hid (parentP_any x.1.path W.drew (HE.out.below (hbel.drew)) (by omega))
        rw [valid_path hxv, if_pos rfl] at HPAR
        by_cases hp : x.1.path = dir
        · have hq1 : (x.1.path == dir) = true := by rw [beq_iff_eq]; exact hp
          have hq2 : (x.1.path != dir) = false := by rw [hp]; simp
          have hkf : (pre ++ [x]).filter (fun y => kidB dir y.1) = pre.filter fun y => kidB dir y.1 := by
            rw [List.filter_append]; simp [kidB, hp]
          have HFIN := Lib.hid (show ListI dir w w1.heap.size m (pre ++ [x]) W.drew from ⟨va, vc, by rw [hkf]; exact hbx, by rw [hkf]; exact hnew.below (Below.refl _ _).drew, hwB, hmm, hbel.drew, hdb⟩)
          clear hnew hG hmem hxv hkf hp hbel hEB
          gi_wp2_with fail
          gi_region_with_o (refine ⟨trivial, ?_⟩)
          all_goals gi_wp2_with fail
          all_goals exact ⟨(keeps_grown (grown_below (Below.refl _ _).drew none) (fun r e => by cases e)).from _, Kept.drew W, HFIN.out⟩
        · have hq1 : (x.1.path == dir) = false := beq_eq_false_iff_ne.2 hp
          have hq2 : (x.1.path != dir) = true := by rw [bne_iff_ne]; exact hp
          have hI0 : ListI dir w w1.heap.size m pre W := ⟨va, vc, hbx, hnew, hwB, hmm, hbel, hdb⟩
          have hcd := Lib.hid fun w5 (hb5 : Below W.drew.heap.size W.drew w5) => (hb5.cell (p := ⟨w.heap.size, 0, none⟩) (lt_of_block hdb)).trans cd
          by_cases hpq : Pn.parentP x.1.path = dir
          · have hq3 : (Pn.parentP x.1.path == dir) = true := by rw [beq_iff_eq]; exact hpq
            have HST := Lib.hid fun w5 hb5 => list_kid (n := w3.heap.size) (x := x) (w5 := w5) hI0 hG hmW (below_then (Below.refl _ W).drew hb5) (by unfold kidB; rw [hq2, hq3]; rfl) (Nat.le_of_lt (by have h1 := hG.lt; have h2 := HUL.out; omega)) hEB0
            clear hnew hG hmem hxv hp hbel hEB hpq hI0
            gi_wp2_with fail
            gi_region_with_o (refine ⟨trivial, ((callsIn_wide.2 HPAR.out).inRound l).mono ?_⟩; rintro e' w5 ⟨rfl, hb5⟩; have hd5 := hcd.out w5 hb5)
            all_goals obtain ⟨ua, uc, ua', uc', w6, g1, g2, g3, g4, g5, g6, g7⟩ := HST.out w5 hb5
            all_goals obtain ⟨y0, y1, y2, y3, y4, y5⟩ := g2.cells
            all_goals have c0 := cell_of_block' g1 0
            all_goals have c6 := cell_of_block' g4 0
            all_goals have f6 := free_of_block g4 0
            all_goals simp at c0 c6
            all_goals have HRUN := Lib.hid g3
            all_goals have HEND := Lib.hid (show _ ∧ _ ∧ _ from ⟨g5, g6, g7⟩)
            all_goals clear x0 x1 x2 x3 x4 x5 hbx hdb cd hEB0 g1 g2 g3 g4 g5 g6 g7 hb5 hr
            all_goals gi_wp2_with (gi_at_builtin; refine wpListIn_append_run rfl _ _ 29 rfl _ _ rfl rfl _ _ rfl HRUN.out ?_)
            all_goals exact HEND.out
          · have hq3 : (Pn.parentP x.1.path == dir) = false := beq_eq_false_iff_ne.2 hpq
            have hkf : (pre ++ [x]).filter (fun y => kidB dir y.1) = pre.filter fun y => kidB dir y.1 := by
              rw [List.filter_append]; simp [kidB, hpq]
            have HFIN := Lib.hid fun w5 (hb5 : Below W.drew.heap.size W.drew w5) => (⟨va, vc, by rw [hkf, hb5.block _ (lt_of_block hbx)]; exact hbx, by rw [hkf]; exact hnew.below (below_then (Below.refl _ W).drew hb5), hwB, hmm, below_then hbel (below_then (Below.refl _ W).drew hb5), (hb5.block _ (lt_of_block hdb)).trans hdb⟩ : ListI dir w w1.heap.size m (pre ++ [x]) w5)
            clear hnew hG hmem hxv hp hbel hEB hkf hpq hI0
            gi_wp2_with fail
            gi_region_with_o (refine ⟨trivial, ((callsIn_wide.2 HPAR.out).inRound l).mono ?_⟩; rintro e' w5 ⟨rfl, hb5⟩; have hd5 := hcd.out w5 hb5)
            all_goals gi_wp2_with fail
            all_goals exact ⟨(keeps_grown (grown_below (below_then (Below.refl _ W).drew hb5) none) (fun r e => by cases e)).from _, Kept.of_below (below_then (Below.refl _ W).drew hb5) hmW, HFIN.out _ hb5⟩
      case done =>
        rintro D m ys W hD hys ⟨va, vc, hbx, hnew, hwB, hmm, hbel, hdb⟩ hK
        have c0 := cell_of_block' hbx 0
        simp at c0
        have HN := Lib.hid hnew
        have HK := Lib.hid hK
        have HBE := Lib.hid hbel
        have HKS := Lib.hid (show (ys.filter fun y => kidB dir y.1).map Prod.fst = kidsOf t dir by rw [filter_map_fst, hys]; rfl)
        have hyl : (kidsOf t dir).length = (ys.filter fun y => kidB dir y.1).length := by rw [← HKS.out]; simp
        clear hnew hK hbel hys hdb
        go_wp2_with fail
        refine ⟨by simp, .inl ⟨_, _, rfl, run_takeDeferred HK.out, ?_⟩⟩
        refine ⟨.tuple #[.slice va (ys.filter fun y => kidB dir y.1).length vc, .int .i64 0], by simp [results, Tryd.results25, go_sem], .inr ⟨H0.out, va, vc, _, by rw [hyl], ?_, HKS.out, HBE.out.trans (belowK_b (w := w) (Nat.le_refl _) W D _ _ (by omega) HK.out rfl rfl)⟩⟩
        exact ((HN.out.mono (by omega)).kept (grownBy_putObj' _ D (.deferred none)) (fun r e => by cases e; exact ⟨_, HK.out, rfl⟩))
      case stop =>
        rintro D c pre W _ _ h _
        exact h.elim
    · have hz : (belowE t dir != 0) = true := by rw [bne_iff_ne]; exact hbe
      rw [← HR.out] at hbe hz ⊢
      go_wp2_with fail
      exact ⟨.tuple #[.slice none 0 0, .int .i64 (listE t dir)], by simp [results, Tryd.results25, go_sem], .inl ⟨hbe, rfl, HA.out⟩⟩

end Go.Proofs.YtdcghpeomaailaaDoor
