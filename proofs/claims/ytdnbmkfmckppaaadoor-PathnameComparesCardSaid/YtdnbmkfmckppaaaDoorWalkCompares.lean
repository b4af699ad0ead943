/-
  The walk of kinkeeplaw18.PathnameCompares: it answers true.
-/
import Derived.Test.YtdnbmkfmckppaaaDoorAwake
import Derived.Test.YtdnbmkfmckppaaaDoorRefPath
namespace Go.Proofs.YtdnbmkfmckppaaaDoor
open Go.RowKit Go.Lib

set_option maxHeartbeats 4000000 in
set_option maxRecDepth 100000 in
theorem compares_any (a b : ByteArray) (w : World) (hE : Env w) : Calls Tryd.prog 6 #[.string a, .string b] w fun e w' => e = .returned (.bool true) ∧ Below w.heap.size w w' := by
  have HA := Lib.hid (awake_any w hE)
  have HE := Lib.hid hE
  have B0 := Lib.hid (Below.refl w.heap.size w)
  clear hE
  by_cases hsz : a.size ≤ 2000 ∧ b.size ≤ 2000
  · obtain ⟨ha, hb⟩ := hsz
    have haz : ¬ (2000 : Int) < (a.size : Int) := by omega
    have hbz : ¬ (2000 : Int) < (b.size : Int) := by omega
    have C1 := Lib.hid fun w => compare_any a b w (by omega) (by omega)
    have C2 := Lib.hid fun w => compare_ref a b w (by omega) (by omega)
    have W1 := Lib.hid fun w h => within_any a b w (by omega) (by omega) h
    have W2 := Lib.hid fun w => within_ref a b w (by omega) (by omega)
    generalize Pn.cmpP a.data.toList b.data.toList = c at *
    generalize Pn.withinP a.data.toList b.data.toList = q at *
    have hcc : (c == c) = true := by simp
    have hqq : (q == q) = true := by simp
    go_enter Tryd.func6, Tryd.ntmps6
    go_wp2_with fail
    refine (HA.out).mono ?_
    rintro e w1 ⟨rfl, hb⟩
    have B1 := Lib.hid (below_then B0.out hb)
    clear hb
    go_wp2_with fail
    refine (C1.out _).mono ?_
    rintro e w2 ⟨rfl, hb⟩
    have B2 := Lib.hid (below_then B1.out hb)
    clear hb
    go_wp2_with fail
    refine (C2.out _).mono ?_
    rintro e w3 ⟨rfl, hb⟩
    have B3 := Lib.hid (below_then B2.out hb)
    clear hb
    go_wp2_with fail
    refine (W1.out _ (HE.out.below B3.out)).mono ?_
    rintro e w4 ⟨rfl, hb⟩
    have B4 := Lib.hid (below_then B3.out hb)
    clear hb
    go_wp2_with fail
    refine (W2.out _).mono ?_
    rintro e w5 ⟨rfl, hb⟩
    have B5 := Lib.hid (below_then B4.out hb)
    clear hb
    go_wp2_with fail
    go_ret
    exact ⟨rfl, B5.out⟩
  · go_enter Tryd.func6, Tryd.ntmps6
    go_wp2_with fail
    refine (HA.out).mono ?_
    rintro e w1 ⟨rfl, hb⟩
    have B1 := Lib.hid (below_then B0.out hb)
    clear hb
    go_wp2_with fail
    all_goals first
      | (go_ret; exact ⟨rfl, B1.out⟩)
      | (exfalso; apply hsz; omega)

end Go.Proofs.YtdnbmkfmckppaaaDoor
