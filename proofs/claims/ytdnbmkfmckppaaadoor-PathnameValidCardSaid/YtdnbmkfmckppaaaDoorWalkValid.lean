/-
  The walk of kinkeeplaw18.PathnameValid: it answers true.
-/
import Derived.Test.YtdnbmkfmckppaaaDoorAwake
import Derived.Test.YtdnbmkfmckppaaaDoorRefPath
import Derived.Test.YtdnbmkfmckppaaaDoorRefUnite
namespace Go.Proofs.YtdnbmkfmckppaaaDoor
open Go.RowKit Go.Lib

theorem StrsAt.init {w : World} {va : Option Addr} {l : List Pn.B} (h : StrsAt w va l) : StrsAt w va l.dropLast := by
  rcases h with rfl | ⟨g, h1, h2, h3⟩
  · exact .inl rfl
  · refine .inr ⟨g, h1, h2, fun i hi => ?_⟩
    have hi' : i < (l.map S).length := by simp at hi ⊢; omega
    rw [h3 i hi']
    simp [List.getElem_dropLast]

set_option maxHeartbeats 4000000 in
set_option maxRecDepth 100000 in
theorem valid_law (s : ByteArray) (w : World) (hE : Env w) : Calls Tryd.prog 5 #[.string s] w fun e w' => e = .returned (.bool true) ∧ Below w.heap.size w w' := by
  have HA := Lib.hid (awake_any w hE)
  have HE := Lib.hid hE
  have B0 := Lib.hid (Below.refl w.heap.size w)
  clear hE
  by_cases hsz : s.size ≤ 2000
  · have haz : ¬ (2000 : Int) < (s.size : Int) := by omega
    have S1 := Lib.hid fun w h => splitPath_any s w (by omega) h
    have P1 := Lib.hid fun w h => parent_any s w (by omega) h
    have R1 := Lib.hid fun w => valid_ref s w (by omega)
    have V1 := Lib.hid fun w h => valid_any s w (by omega) h
    unfold SplitOk at S1
    unfold ParentOk at P1
    have hw := splitS_weight 47 s.data.toList
    rw [← size_eq] at hw
    cases hv : Pn.validP s.data.toList with
    | false =>
      rw [hv] at R1 V1
      simp only [hv, Bool.false_eq_true, ↓reduceIte] at S1 P1
      clear hv
      go_enter Tryd.func5, Tryd.ntmps5
      go_wp2_with fail
      refine (HA.out).mono ?_
      rintro e w1 ⟨rfl, hb⟩
      have B1 := Lib.hid (below_then B0.out hb)
      clear hb
      go_wp2_with fail
      refine (S1.out _ (HE.out.below B1.out)).mono ?_
      rintro e w2 ⟨hb, rfl⟩
      have B2 := Lib.hid (below_then B1.out hb)
      clear hb
      go_wp2_with fail
      refine (P1.out _ (HE.out.below B2.out)).mono ?_
      rintro e w3 ⟨hb, rfl⟩
      have B3 := Lib.hid (below_then B2.out hb)
      clear hb
      go_wp2_with fail
      refine (R1.out _).mono ?_
      rintro e w4 ⟨rfl, hb⟩
      have B4 := Lib.hid (below_then B3.out hb)
      clear hb
      go_wp2_with fail
      refine (V1.out _ (HE.out.below B4.out)).mono ?_
      rintro e w5 ⟨rfl, hb⟩
      have B5 := Lib.hid (below_then B4.out hb)
      clear hb
      go_wp2_with fail
      go_ret
      exact ⟨rfl, B5.out⟩
    | true =>
      rw [hv] at R1 V1
      simp only [hv, ↓reduceIte] at S1 P1
      clear hv
      have D1 := Lib.hid fun w => divide_any s w (by omega)
      unfold DivideOk at D1
      have hup : Pn.parentP s.data.toList = Pn.joinS 47 (Pn.splitS 47 s.data.toList).dropLast := rfl
      have hpos := List.length_pos_iff.2 (Pn.splitS_ne 47 s.data.toList)
      rw [hup] at P1
      clear hup
      generalize Pn.splitS 47 s.data.toList = l at *
      have hlw := len_weight l
      obtain ⟨k, hk⟩ : ∃ k, k + 1 = l.length := ⟨l.length - 1, by omega⟩
      have hdl : l.dropLast.length = k := by rw [List.length_dropLast]; omega
      have hwr : IntKind.i64.wrap ((l.length : Int) - 1) = (k : Int) := by rw [IntKind.wrap_i64]; omega
      have hjj : (Pn.joinS 47 l.dropLast == Pn.joinS 47 l.dropLast) = true := by simp
      have SM := Lib.hid fun va vb vc vd w h1 h2 => same_any l va vb vc vd w (by omega) h1 h2
      have hwd : weight l.dropLast ≤ weight l := by rw [List.dropLast_eq_take]; exact weight_take l _
      have UN := Lib.hid fun va vc w h => unite_any l.dropLast va vc w h (by omega)
      rw [hdl] at UN
      clear hw hpos hdl hwd
      go_enter Tryd.func5, Tryd.ntmps5
      go_wp2_with fail
      refine (HA.out).mono ?_
      rintro e w1 ⟨rfl, hb⟩
      have B1 := Lib.hid (below_then B0.out hb)
      clear hb
      go_wp2_with fail
      refine (S1.out _ (HE.out.below B1.out)).mono ?_
      rintro e w2 ⟨hb, g, hg1, hg2, rfl, hr⟩
      have B2 := Lib.hid (below_then B1.out hb)
      have R2 := Lib.hid (show StrsAt w2 (some ⟨g, 0, none⟩) l from .inr ⟨g, rfl, hg2, hr⟩)
      clear hb hg1 hg2 hr
      go_wp2_with fail
      refine (P1.out _ (HE.out.below B2.out)).mono ?_
      rintro e w3 ⟨hb, rfl⟩
      have B3 := Lib.hid (below_then B2.out hb)
      have R3 := Lib.hid (R2.out.below hb)
      clear hb R2
      go_wp2_with fail
      refine (R1.out _).mono ?_
      rintro e w4 ⟨rfl, hb⟩
      have B4 := Lib.hid (below_then B3.out hb)
      have R4 := Lib.hid (R3.out.below hb)
      clear hb R3
      go_wp2_with fail
      refine (D1.out _).mono ?_
      rintro e w5 ⟨hb, va, vc, rfl, hm⟩
      have B5 := Lib.hid (below_then B4.out hb)
      have R5 := Lib.hid (R4.out.below hb)
      have Q5 := Lib.hid (strsAt_of hm).1
      have hvc := (strsAt_of hm).2
      have hva : ∃ g2, va = some ⟨g2, 0, none⟩ := by
        obtain ⟨g2, h, _⟩ := Q5.out.get (i := 0) (by omega)
        exact ⟨g2, h⟩
      obtain ⟨g2, rfl⟩ := hva
      clear hb R4 hm
      go_wp2_with fail
      refine (V1.out _ (HE.out.below B5.out)).mono ?_
      rintro e w6 ⟨rfl, hb⟩
      have B6 := Lib.hid (below_then B5.out hb)
      have R6 := Lib.hid (R5.out.below hb)
      have Q6 := Lib.hid (Q5.out.below hb)
      clear hb R5 Q5
      go_wp2_with fail
      refine (SM.out _ _ _ _ _ R6.out Q6.out).mono ?_
      rintro e w7 ⟨rfl, hb⟩
      have B7 := Lib.hid (below_then B6.out hb)
      have Q7 := Lib.hid (Q6.out.below hb)
      clear hb R6 Q6
      go_wp2_with fail
      refine (UN.out _ _ _ Q7.out.init).mono ?_
      rintro e w8 ⟨rfl, hb⟩
      have B8 := Lib.hid (below_then B7.out hb)
      clear hb
      go_wp2_with fail
      go_ret
      exact ⟨rfl, B8.out⟩
  · have haz : (2000 : Int) < (s.size : Int) := by omega
    go_enter Tryd.func5, Tryd.ntmps5
    go_wp2_with fail
    refine (HA.out).mono ?_
    rintro e w1 ⟨rfl, hb⟩
    have B1 := Lib.hid (below_then B0.out hb)
    clear hb
    go_wp2_with fail
    go_ret
    exact ⟨rfl, B1.out⟩

end Go.Proofs.YtdnbmkfmckppaaaDoor
