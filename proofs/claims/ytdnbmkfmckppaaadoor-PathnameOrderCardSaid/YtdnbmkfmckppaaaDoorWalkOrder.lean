/-
  The walk of kinkeeplaw18.PathnameOrder: it answers true.
-/
import Derived.Test.YtdnbmkfmckppaaaDoorAwake
import Derived.Test.YtdnbmkfmckppaaaDoorLawOrder
namespace Go.Proofs.YtdnbmkfmckppaaaDoor
open Go.RowKit Go.Lib

set_option maxHeartbeats 8000000 in
set_option maxRecDepth 100000 in
theorem order_any (a b c d : ByteArray) (w : World) (hE : Env w) : Calls Tryd.prog 7 #[.string a, .string b, .string c, .string d] w fun e w' => e = .returned (.bool true) ∧ Below w.heap.size w w' := by
  have HA := Lib.hid (awake_any w hE)
  have HE := Lib.hid hE
  clear hE
  by_cases hsz : a.size ≤ 600 ∧ b.size ≤ 600 ∧ c.size ≤ 600 ∧ d.size ≤ 600
  · obtain ⟨ha, hb, hc, hd⟩ := hsz
    have haz : ¬ (600 : Int) < (a.size : Int) := by omega
    have hbz : ¬ (600 : Int) < (b.size : Int) := by omega
    have hcz : ¬ (600 : Int) < (c.size : Int) := by omega
    have hdz : ¬ (600 : Int) < (d.size : Int) := by omega
    have C1 := Lib.hid fun w => compare_any a b w (by omega) (by omega)
    have C2 := Lib.hid fun w => compare_any b c w (by omega) (by omega)
    have C3 := Lib.hid fun w => compare_any a c w (by omega) (by omega)
    have C4 := Lib.hid fun w => compare_any b a w (by omega) (by omega)
    have C5 := Lib.hid fun w => compare_any d a w (by omega) (by omega)
    have W1 := Lib.hid fun w h => within_any d a w (by omega) (by omega) h
    have W2 := Lib.hid fun w h => within_any d c w (by omega) (by omega) h
    have W3 := Lib.hid fun w h => within_any d b w (by omega) (by omega) h
    have V := Lib.hid fun w h => valid_any b w (by omega) h
    have hn := Pn.cmp_neg a.data.toList b.data.toList
    have he := Pn.cmp_eq a.data.toList b.data.toList
    have ht := Pn.cmp_trans a.data.toList b.data.toList c.data.toList
    have hbo := Pn.cmp_both a.data.toList b.data.toList c.data.toList
    have hwl := Pn.within_le d.data.toList a.data.toList
    have hwm := Pn.within_mid d.data.toList a.data.toList b.data.toList c.data.toList
    have k1 := Pn.cmp_cases a.data.toList b.data.toList
    have k2 := Pn.cmp_cases b.data.toList c.data.toList
    have k3 := Pn.cmp_cases a.data.toList c.data.toList
    have hab : (a.toList == b.toList) = decide (Pn.cmpP a.data.toList b.data.toList = 0) := by
      rw [toList_data, toList_data, Bool.eq_iff_iff, beq_iff_eq, decide_eq_true_eq, he]
    have hdn : (d.toList == []) = decide (d.data.toList = []) := by
      rw [toList_data, Bool.eq_iff_iff, beq_iff_eq, decide_eq_true_eq]
    generalize Pn.cmpP a.data.toList b.data.toList = x at *
    generalize Pn.cmpP b.data.toList c.data.toList = y at *
    generalize Pn.cmpP a.data.toList c.data.toList = z at *
    generalize Pn.cmpP b.data.toList a.data.toList = x' at *
    generalize Pn.cmpP d.data.toList a.data.toList = v at *
    generalize Pn.withinP d.data.toList a.data.toList = q1 at *
    generalize Pn.withinP d.data.toList b.data.toList = q2 at *
    generalize Pn.withinP d.data.toList c.data.toList = q3 at *
    generalize Pn.validP b.data.toList = vb at *
    subst hn
    have HAB := Lib.hid hab
    have HT := Lib.hid ht
    have HBO := Lib.hid hbo
    have HWL := Lib.hid hwl
    have HWM := Lib.hid hwm
    clear he ht hbo hwl hwm hab ha hb hc hd
    go_enter Tryd.func7, Tryd.ntmps7
    go_wp2_with fail
    refine HA.out.mono ?_
    rintro e w1 ⟨rfl, hb⟩
    have B1 := Lib.hid hb
    clear hb
    go_wp2_with fail
    refine (C1.out _).mono ?_
    rintro e w2 ⟨rfl, hb⟩
    have B2 := Lib.hid (below_then B1.out hb)
    clear hb
    go_wp2_with fail
    refine (C2.out _).mono ?_
    rintro e w3 ⟨rfl, hb⟩
    have B3 := Lib.hid (below_then B2.out hb)
    clear hb
    go_wp2_with fail
    refine (C3.out _).mono ?_
    rintro e w4 ⟨rfl, hb⟩
    have B4 := Lib.hid (below_then B3.out hb)
    clear hb
    go_wp2_with fail
    refine (C4.out _).mono ?_
    rintro e w5 ⟨rfl, hb⟩
    have B5 := Lib.hid (below_then B4.out hb)
    clear hb
    rcases k1 with rfl | rfl | rfl <;> rcases k2 with rfl | rfl | rfl <;> rcases k3 with rfl | rfl | rfl
    all_goals first
      | (exfalso; have h1 := HT.out (by decide) (by decide); revert h1; decide)
      | (exfalso; have h1 := HBO.out (by decide) (by decide) rfl; revert h1; decide)
      | skip
    all_goals first
      | have h0 : (a.toList == b.toList) = false := HAB.out.trans (by decide)
      | have h0 : (a.toList == b.toList) = true := HAB.out.trans (by decide)
    all_goals go_wp2_with fail
    all_goals refine (W1.out _ (HE.out.below B5.out)).mono ?_
    all_goals rintro e w6 ⟨rfl, hb⟩
    all_goals have B6 := Lib.hid (below_then B5.out hb)
    all_goals clear hb
    all_goals cases q1
    all_goals first
      | (have hq := HWL.out (by decide)
         by_cases hd : d.data.toList = []
         · have hdn' : (d.toList == []) = true := by rw [hdn, decide_eq_true hd]
           clear hdn
           go_wp2_with fail
           refine (V.out _ (HE.out.below B6.out)).mono ?_
           rintro e w7 ⟨rfl, hb⟩
           have B7 := Lib.hid (below_then B6.out hb)
           clear hb
           exact (by
             cases vb
             · go_wp2_with fail
               go_ret
               exact ⟨rfl, B7.out⟩
             · go_wp2_with fail
               first
               | (go_ret; exact ⟨rfl, B7.out⟩)
               | (refine (W1.out _ (HE.out.below B7.out)).mono ?_
                  rintro e wa ⟨rfl, hb⟩
                  have BA := Lib.hid (below_then B7.out hb)
                  clear hb
                  go_wp2_with fail
                  first
                  | (go_ret; exact ⟨rfl, BA.out⟩)
                  | (refine (W2.out _ (HE.out.below BA.out)).mono ?_
                     rintro e wb ⟨rfl, hb⟩
                     have BB := Lib.hid (below_then BA.out hb)
                     clear hb
                     cases q3
                     · go_wp2_with fail
                       go_ret
                       exact ⟨rfl, BB.out⟩
                     · have hq2 := HWM.out (by simp) (by decide) (by decide) (by simp) (by simp)
                       subst hq2
                       go_wp2_with fail
                       refine (W3.out _ (HE.out.below BB.out)).mono ?_
                       rintro e wc ⟨rfl, hb⟩
                       have BC := Lib.hid (below_then BB.out hb)
                       clear hb
                       go_wp2_with fail
                       go_ret
                       exact ⟨rfl, BC.out⟩)))
         · have hdn' : (d.toList == []) = false := by rw [hdn, decide_eq_false hd]
           have hv : ¬ (0 : Int) < v := by have := hq hd; omega
           clear hdn
           go_wp2_with fail
           refine (C5.out _).mono ?_
           rintro e w7 ⟨rfl, hb⟩
           have B7 := Lib.hid (below_then B6.out hb)
           clear hb
           go_wp2_with fail
           refine (V.out _ (HE.out.below B7.out)).mono ?_
           rintro e w8 ⟨rfl, hb⟩
           have B8 := Lib.hid (below_then B7.out hb)
           clear hb
           exact (by
             cases vb
             · go_wp2_with fail
               go_ret
               exact ⟨rfl, B8.out⟩
             · go_wp2_with fail
               first
               | (go_ret; exact ⟨rfl, B8.out⟩)
               | (refine (W1.out _ (HE.out.below B8.out)).mono ?_
                  rintro e wa ⟨rfl, hb⟩
                  have BA := Lib.hid (below_then B8.out hb)
                  clear hb
                  go_wp2_with fail
                  first
                  | (go_ret; exact ⟨rfl, BA.out⟩)
                  | (refine (W2.out _ (HE.out.below BA.out)).mono ?_
                     rintro e wb ⟨rfl, hb⟩
                     have BB := Lib.hid (below_then BA.out hb)
                     clear hb
                     cases q3
                     · go_wp2_with fail
                       go_ret
                       exact ⟨rfl, BB.out⟩
                     · have hq2 := HWM.out (by simp) (by decide) (by decide) (by simp) (by simp)
                       subst hq2
                       go_wp2_with fail
                       refine (W3.out _ (HE.out.below BB.out)).mono ?_
                       rintro e wc ⟨rfl, hb⟩
                       have BC := Lib.hid (below_then BB.out hb)
                       clear hb
                       go_wp2_with fail
                       go_ret
                       exact ⟨rfl, BC.out⟩))))
      | (go_wp2_with fail
         refine (V.out _ (HE.out.below B6.out)).mono ?_
         rintro e w7 ⟨rfl, hb⟩
         have B7 := Lib.hid (below_then B6.out hb)
         clear hb
         exact (by
             cases vb
             · go_wp2_with fail
               go_ret
               exact ⟨rfl, B7.out⟩
             · go_wp2_with fail
               first
               | (go_ret; exact ⟨rfl, B7.out⟩)
               | (refine (W1.out _ (HE.out.below B7.out)).mono ?_
                  rintro e wa ⟨rfl, hb⟩
                  have BA := Lib.hid (below_then B7.out hb)
                  clear hb
                  go_wp2_with fail
                  first
                  | (go_ret; exact ⟨rfl, BA.out⟩)
                  | (refine (W2.out _ (HE.out.below BA.out)).mono ?_
                     rintro e wb ⟨rfl, hb⟩
                     have BB := Lib.hid (below_then BA.out hb)
                     clear hb
                     cases q3
                     · go_wp2_with fail
                       go_ret
                       exact ⟨rfl, BB.out⟩
                     · have hq2 := HWM.out (by simp) (by decide) (by decide) (by simp) (by simp)
                       subst hq2
                       go_wp2_with fail
                       refine (W3.out _ (HE.out.below BB.out)).mono ?_
                       rintro e wc ⟨rfl, hb⟩
                       have BC := Lib.hid (below_then BB.out hb)
                       clear hb
                       go_wp2_with fail
                       go_ret
                       exact ⟨rfl, BC.out⟩))))
  · go_enter Tryd.func7, Tryd.ntmps7
    go_wp2_with fail
    refine HA.out.mono ?_
    rintro e w1 ⟨rfl, hb⟩
    have HB := Lib.hid hb
    clear hb
    go_wp2_with fail
    all_goals go_ret
    all_goals exact ⟨rfl, HB.out⟩

end Go.Proofs.YtdnbmkfmckppaaaDoor
