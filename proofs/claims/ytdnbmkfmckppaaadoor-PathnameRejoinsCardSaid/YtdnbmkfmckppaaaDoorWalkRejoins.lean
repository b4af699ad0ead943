/-
  The walk of kinkeeplaw18.PathnameRejoins: it answers true.
-/
import Derived.Test.YtdnbmkfmckppaaaDoorAwake
import Derived.Test.YtdnbmkfmckppaaaDoorJoin
import Derived.Test.YtdnbmkfmckppaaaDoorLiteral
namespace Go.Proofs.YtdnbmkfmckppaaaDoor
open Go.RowKit Go.Lib

theorem cell_row {w : World} {g i : Nat} {l : List Pn.B} (h : RowAt w g 0 (l.map S)) (hi : i < l.length) : w.cell? ⟨g, i, none⟩ = some (S l[i]) := by
  have := h i (by simpa using hi)
  rw [Nat.zero_add] at this
  rw [this]; simp

set_option maxHeartbeats 4000000 in
set_option maxRecDepth 100000 in
theorem rejoins_any (s : ByteArray) (w : World) (hE : Env w) : Calls Tryd.prog 8 #[.string s] w fun e w' => e = .returned (.bool true) ∧ Below w.heap.size w w' := by
  have HA := Lib.hid (awake_any w hE)
  have HE := Lib.hid hE
  clear hE
  by_cases hsz : s.size ≤ 2000
  · have hsz' : ¬ (2000 : Int) < (s.size : Int) := by omega
    have C1 := Lib.hid fun w h => clean_top s w (by omega) h
    have V2 := Lib.hid fun w h => valid_any s w (by omega) h
    rcases clean_cases s.data.toList with ⟨hct, hnv⟩ | ⟨p, hct, hv, hcp, hpt⟩
    · rw [hct] at C1
      rw [hnv] at V2
      clear hct hnv
      go_enter Tryd.func8, Tryd.ntmps8
      go_wp2_with fail
      refine HA.out.mono ?_
      rintro e w1 ⟨rfl, hb⟩
      have B1 := Lib.hid hb
      clear hb
      go_wp2_with fail
      refine (C1.out _ (HE.out.below B1.out)).mono ?_
      rintro e w2 ⟨rfl, hb⟩
      have B2 := Lib.hid (below_then B1.out hb)
      clear hb
      go_wp2_with fail
      refine (V2.out _ (HE.out.below B2.out)).mono ?_
      rintro e w3 ⟨rfl, hb⟩
      have B3 := Lib.hid (below_then B2.out hb)
      clear hb
      go_wp2_with fail
      go_ret
      exact ⟨rfl, B3.out⟩
    · rw [hct] at C1
      obtain ⟨h1, h2, _⟩ := Pn.valid_facts hv
      have hpos := List.length_pos_iff.2 (Pn.splitS_ne 47 p)
      have C2 := Lib.hid fun w h => clean_top ⟨p.toArray⟩ w (show p.length < _ by omega) h
      rw [show (⟨p.toArray⟩ : ByteArray).data.toList = p from rfl, hcp] at C2
      have S1 := Lib.hid fun w h => splitPath_any ⟨p.toArray⟩ w (show p.length < _ by omega) h
      unfold SplitOk at S1
      rw [show (⟨p.toArray⟩ : ByteArray).data.toList = p from rfl, hv] at S1
      simp only [↓reduceIte] at S1
      have J := Lib.hid fun g vc w => join_path p g vc w hv
      have V1 := Lib.hid fun w h => valid_any ⟨p.toArray⟩ w (show p.length < _ by omega) h
      rw [show (⟨p.toArray⟩ : ByteArray).data.toList = p from rfl, hv] at V1
      have P := Lib.hid fun w h => parent_any ⟨p.toArray⟩ w (show p.length < _ by omega) h
      unfold ParentOk at P
      rw [show (⟨p.toArray⟩ : ByteArray).data.toList = p from rfl, hv] at P
      simp only [↓reduceIte] at P
      obtain ⟨n, hn⟩ : ∃ n, n + 1 = (Pn.splitS 47 p).length := ⟨(Pn.splitS 47 p).length - 1, by omega⟩
      have HL := Lib.hid (path_last hv n hn)
      have hpl : (Pn.parentP p).length ≤ 512 := by
        rcases HL.out with ⟨g1, _⟩ | ⟨_, _, g3⟩
        · rw [g1]; decide
        · have := congrArg List.length g3
          simp at this; omega
      have W1 := Lib.hid fun w h => within_any ⟨(Pn.parentP p).toArray⟩ ⟨p.toArray⟩ w (show (Pn.parentP p).length < _ by omega) (show p.length < _ by omega) h
      rw [show (⟨p.toArray⟩ : ByteArray).data.toList = p from rfl, show (⟨(Pn.parentP p).toArray⟩ : ByteArray).data.toList = Pn.parentP p from rfl, within_parent hv] at W1
      have RC := Lib.hid fun (w : World) (g : Nat) (h : RowAt w g 0 ((Pn.splitS 47 p).map S)) => cell_row (i := n) h (by omega)
      have hN := Lib.hid hn
      have hpp : (p == p) = true := by simp
      have hne : ¬ (((Pn.splitS 47 p).length : Int) = 0) := by omega
      have h16 : (Pn.splitS 47 p).length ≤ 16 := h2
      have HP5 := Lib.hid h1
      clear hct hcp h1 h2 hpos
      have HPT := Lib.hid hpt
      clear hpt
      go_enter Tryd.func8, Tryd.ntmps8
      go_wp2_with fail
      refine HA.out.mono ?_
      rintro e w1 ⟨rfl, hb⟩
      have B1 := Lib.hid hb
      clear hb
      go_wp2_with fail
      refine (C1.out _ (HE.out.below B1.out)).mono ?_
      rintro e w2 ⟨rfl, hb⟩
      have B2 := Lib.hid (below_then B1.out hb)
      clear hb
      go_wp2_with fail
      refine (C2.out _ (HE.out.below B2.out)).mono ?_
      rintro e w3 ⟨rfl, hb⟩
      have B3 := Lib.hid (below_then B2.out hb)
      clear hb
      go_wp2_with fail
      refine (S1.out _ (HE.out.below B3.out)).mono ?_
      rintro e w4 ⟨hb, g, hg1, hg2, rfl, hr⟩
      have B4 := Lib.hid (below_then B3.out hb)
      have R4 := Lib.hid hr
      clear hb hr
      go_wp2_with fail
      refine (J.out g _ w4 (HE.out.below B4.out) hg2 R4.out (Nat.le_refl _)).mono ?_
      rintro e w5 ⟨rfl, hb⟩
      have hg5 : g < w5.heap.size := Nat.lt_of_lt_of_le hg2 hb.size
      have R5 := Lib.hid (R4.out.below hb hg2)
      have B5 := Lib.hid (below_then B4.out hb)
      clear hb R4 hg2 hg1
      go_wp2_with fail
      refine (V1.out _ (HE.out.below B5.out)).mono ?_
      rintro e w6 ⟨rfl, hb⟩
      have hg6 : g < w6.heap.size := Nat.lt_of_lt_of_le hg5 hb.size
      have R6 := Lib.hid (R5.out.below hb hg5)
      have B6 := Lib.hid (below_then B5.out hb)
      clear hb R5 hg5
      go_wp2_with fail
      cases hvt : Pn.validP s.data.toList with
      | false =>
        rw [hvt] at V2
        refine (V2.out _ (HE.out.below B6.out)).mono ?_
        rintro e w7 ⟨rfl, hb⟩
        have R7 := Lib.hid (R6.out.below hb hg6)
        have B7 := Lib.hid (below_then B6.out hb)
        have hg7 : g < w7.heap.size := Nat.lt_of_lt_of_le hg6 hb.size
        clear hb
        go_wp2_with fail
        refine (P.out _ (HE.out.below B7.out)).mono ?_
        rintro e w8 ⟨hb, rfl⟩
        have R8 := Lib.hid (R7.out.below hb hg7)
        have B8 := Lib.hid (below_then B7.out hb)
        have hg8 : g < w8.heap.size := Nat.lt_of_lt_of_le hg7 hb.size
        clear hb
        go_wp2_with fail
        refine (W1.out _ (HE.out.below B8.out)).mono ?_
        rintro e w9 ⟨rfl, hb⟩
        have R9 := Lib.hid (R8.out.below hb hg8)
        have B9 := Lib.hid (below_then B8.out hb)
        clear hb
        rcases HL.out with ⟨g1, g2⟩ | ⟨g1, g2, g3⟩
        · have gq : (Pn.parentP p == []) = true := by rw [g1]; rfl
          have gn : (((Pn.splitS 47 p).length : Int) == 1) = true := by rw [g2]; rfl
          clear g1 g2
          go_wp2_with fail
          go_ret
          exact ⟨rfl, B9.out⟩
        · have gq : (Pn.parentP p == []) = false := by rw [beq_eq_false_iff_ne]; exact g1
          have cell := RC.out w9 g R9.out
          have hwr : IntKind.i64.wrap (((Pn.splitS 47 p).length : Int) - 1) = (n : Int) := by
            rw [IntKind.wrap_i64]; omega
          obtain ⟨q, hq⟩ : ∃ q, (Pn.splitS 47 p)[n]'(by omega) = q := ⟨_, rfl⟩
          rw [hq] at cell g3
          have hsum : ¬ 9223372036854775807 < (Pn.parentP p).length + 1 + q.length := by
            have h1 := congrArg List.length g3
            have h2 := HP5.out
            simp at h1; omega
          have hcat : (((⟨(Pn.parentP p).toArray⟩ : ByteArray) ++ ⟨#[47]⟩ ++ ⟨q.toArray⟩).toList == p) = true := by
            have e : ((⟨(Pn.parentP p).toArray⟩ : ByteArray) ++ ⟨#[47]⟩ ++ ⟨q.toArray⟩).data.toList = Pn.parentP p ++ 47 :: q := by simp [ByteArray.data_append]
            rw [toList_data, e, g3]; simp
          clear g1 g2 g3 hq
          go_wp2_with fail
          go_ret
          exact ⟨rfl, B9.out⟩
      | true =>
        rw [hvt] at V2
        have hps := HPT.out hvt
        have heq : (p == s.toList) = true := by rw [toList_data, ← hps]; simp
        clear hvt hps
        refine (V2.out _ (HE.out.below B6.out)).mono ?_
        rintro e w7 ⟨rfl, hb⟩
        have R7 := Lib.hid (R6.out.below hb hg6)
        have B7 := Lib.hid (below_then B6.out hb)
        have hg7 : g < w7.heap.size := Nat.lt_of_lt_of_le hg6 hb.size
        clear hb
        go_wp2_with fail
        refine (P.out _ (HE.out.below B7.out)).mono ?_
        rintro e w8 ⟨hb, rfl⟩
        have R8 := Lib.hid (R7.out.below hb hg7)
        have B8 := Lib.hid (below_then B7.out hb)
        have hg8 : g < w8.heap.size := Nat.lt_of_lt_of_le hg7 hb.size
        clear hb
        go_wp2_with fail
        refine (W1.out _ (HE.out.below B8.out)).mono ?_
        rintro e w9 ⟨rfl, hb⟩
        have R9 := Lib.hid (R8.out.below hb hg8)
        have B9 := Lib.hid (below_then B8.out hb)
        clear hb
        rcases HL.out with ⟨g1, g2⟩ | ⟨g1, g2, g3⟩
        · have gq : (Pn.parentP p == []) = true := by rw [g1]; rfl
          have gn : (((Pn.splitS 47 p).length : Int) == 1) = true := by rw [g2]; rfl
          clear g1 g2
          go_wp2_with fail
          go_ret
          exact ⟨rfl, B9.out⟩
        · have gq : (Pn.parentP p == []) = false := by rw [beq_eq_false_iff_ne]; exact g1
          have cell := RC.out w9 g R9.out
          have hwr : IntKind.i64.wrap (((Pn.splitS 47 p).length : Int) - 1) = (n : Int) := by
            rw [IntKind.wrap_i64]; omega
          obtain ⟨q, hq⟩ : ∃ q, (Pn.splitS 47 p)[n]'(by omega) = q := ⟨_, rfl⟩
          rw [hq] at cell g3
          have hsum : ¬ 9223372036854775807 < (Pn.parentP p).length + 1 + q.length := by
            have h1 := congrArg List.length g3
            have h2 := HP5.out
            simp at h1; omega
          have hcat : (((⟨(Pn.parentP p).toArray⟩ : ByteArray) ++ ⟨#[47]⟩ ++ ⟨q.toArray⟩).toList == p) = true := by
            have e : ((⟨(Pn.parentP p).toArray⟩ : ByteArray) ++ ⟨#[47]⟩ ++ ⟨q.toArray⟩).data.toList = Pn.parentP p ++ 47 :: q := by simp [ByteArray.data_append]
            rw [toList_data, e, g3]; simp
          clear g1 g2 g3 hq
          go_wp2_with fail
          go_ret
          exact ⟨rfl, B9.out⟩
  · go_enter Tryd.func8, Tryd.ntmps8
    go_wp2_with fail
    refine HA.out.mono ?_
    rintro e w1 ⟨rfl, hb⟩
    have HB := Lib.hid hb
    clear hb
    go_wp2_with fail
    all_goals go_ret
    all_goals exact ⟨rfl, HB.out⟩

end Go.Proofs.YtdnbmkfmckppaaaDoor
