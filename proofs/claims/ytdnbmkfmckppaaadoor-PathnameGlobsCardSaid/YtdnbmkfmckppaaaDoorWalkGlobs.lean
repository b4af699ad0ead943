/-
  The walk of kinkeeplaw18.PathnameGlobs: it answers true.
-/
import Derived.Test.YtdnbmkfmckppaaaDoorAwake
import Derived.Test.YtdnbmkfmckppaaaDoorLiteral
import Derived.Test.YtdnbmkfmckppaaaDoorLawText
namespace Go.Proofs.YtdnbmkfmckppaaaDoor
open Go.RowKit Go.Lib

theorem literal_top {a b : Pn.B} (ha : Pn.validP a = true) (hb : Pn.validP b = true) (hl : a.length ≤ 256) : matchTop (Pn.literalP a) b = (decide (a = b), 0) := by
  unfold matchTop
  rw [Pn.literal_compile ha hl]
  simp only [hb, if_true]
  rw [Pn.literal_match ha hb]

theorem literal_len (a : Pn.B) (i : Nat) : (Pn.literalGo i a).length ≤ 2 * a.length := by
  induction a generalizing i with
  | nil => simp [Pn.literalGo]
  | cons c t ih =>
    have := ih (i + 1)
    rw [Pn.literalGo]
    split <;> simp <;> omega

theorem stars_top {a : Pn.B} (ha : Pn.validP a = true) : matchTop [42, 42] a = (true, 0) := by
  unfold matchTop
  rw [Pn.stars_compile]
  simp only [ha, if_true]
  rw [Pn.stars_match]

theorem top_err (p a : Pn.B) : (matchTop p a).2 = 0 ∨ ((matchTop p a).2 = 1 ∧ (matchTop p a).1 = false) := by
  unfold matchTop
  cases Pn.compileP p with
  | none => exact .inr ⟨rfl, rfl⟩
  | some x =>
    simp only
    cases Pn.validP a <;> simp

theorem joined_top {p q a b : Pn.B} (h1 : matchTop p a = (true, 0)) (h2 : matchTop q b = (true, 0)) (h3 : (matchTop (p ++ 47 :: q) (a ++ 47 :: b)).2 = 0) : (matchTop (p ++ 47 :: q) (a ++ 47 :: b)).1 = true := by
  unfold matchTop at *
  cases hp : Pn.compileP p with
  | none => rw [hp] at h1; cases h1
  | some x =>
    cases hq : Pn.compileP q with
    | none => rw [hq] at h2; cases h2
    | some y =>
      rw [hp] at h1
      rw [hq] at h2
      cases hz : Pn.compileP (p ++ 47 :: q) with
      | none => rw [hz] at h3; cases h3
      | some z =>
        rw [hz] at h3
        simp only at h1 h2 h3 ⊢
        split at h1
        · split at h2
          · split at h3
            · rename_i hv
              rw [if_pos hv]
              exact Pn.joined_match hp hq hz (by simpa using h1) (by simpa using h2)
            · cases h3
          · cases h2
        · cases h1

set_option maxHeartbeats 4000000 in
set_option maxRecDepth 100000 in
theorem globs_any (p q a b : ByteArray) (w : World) (hE : Env w) : Calls Tryd.prog 3 #[.string p, .string q, .string a, .string b] w fun e w' => e = .returned (.bool true) ∧ Below w.heap.size w w' := by
  have HA := Lib.hid (awake_any w hE)
  have HE := Lib.hid hE
  have B0 := Lib.hid (Below.refl w.heap.size w)
  clear hE
  by_cases hsz : p.size ≤ 20 ∧ q.size ≤ 20 ∧ a.size ≤ 20 ∧ b.size ≤ 20
  · obtain ⟨hp, hq, ha, hb⟩ := hsz
    have hpz : ¬ (20 : Int) < (p.size : Int) := by omega
    have hqz : ¬ (20 : Int) < (q.size : Int) := by omega
    have haz : ¬ (20 : Int) < (a.size : Int) := by omega
    have hbz : ¬ (20 : Int) < (b.size : Int) := by omega
    have V1 := Lib.hid fun w h => valid_any a w (by omega) h
    have V2 := Lib.hid fun w h => valid_any b w (by omega) h
    cases hva : Pn.validP a.data.toList with
    | false =>
      rw [hva] at V1
      clear hva
      go_enter Tryd.func3, Tryd.ntmps3
      go_wp2_with fail
      refine (HA.out).mono ?_
      rintro e w1 ⟨rfl, hb⟩
      have B1 := Lib.hid (below_then B0.out hb)
      clear hb
      go_wp2_with fail
      refine (V1.out _ (HE.out.below B1.out)).mono ?_
      rintro e w2 ⟨rfl, hb⟩
      have B2 := Lib.hid (below_then B1.out hb)
      clear hb
      go_wp2_with fail
      go_ret
      exact ⟨rfl, B2.out⟩
    | true =>
      rw [hva] at V1
      cases hvb : Pn.validP b.data.toList with
      | false =>
        rw [hvb] at V2
        clear hva hvb
        go_enter Tryd.func3, Tryd.ntmps3
        go_wp2_with fail
        refine (HA.out).mono ?_
        rintro e w1 ⟨rfl, hb⟩
        have B1 := Lib.hid (below_then B0.out hb)
        clear hb
        go_wp2_with fail
        refine (V1.out _ (HE.out.below B1.out)).mono ?_
        rintro e w2 ⟨rfl, hb⟩
        have B2 := Lib.hid (below_then B1.out hb)
        clear hb
        go_wp2_with fail
        refine (V2.out _ (HE.out.below B2.out)).mono ?_
        rintro e w3 ⟨rfl, hb⟩
        have B3 := Lib.hid (below_then B2.out hb)
        clear hb
        go_wp2_with fail
        go_ret
        exact ⟨rfl, B3.out⟩
      | true =>
        rw [hvb] at V2
        have hal : a.data.toList.length ≤ 20 := by rw [← size_eq]; exact ha
        have hll := literal_len a.data.toList 0
        have L1 := Lib.hid fun w => literal_any a w (by omega)
        have M1 := Lib.hid fun w h => match_top ⟨(Pn.literalP a.data.toList).toArray⟩ a w (show (Pn.literalGo 0 a.data.toList).length < _ by omega) (by omega) h
        have M2 := Lib.hid fun w h => match_top ⟨(Pn.literalP a.data.toList).toArray⟩ b w (show (Pn.literalGo 0 a.data.toList).length < _ by omega) (by omega) h
        have M3 := Lib.hid fun w h => match_top ⟨#[42, 42]⟩ a w (by decide) (by omega) h
        have M4 := Lib.hid fun w h => match_top p a w (by omega) (by omega) h
        have M5 := Lib.hid fun w h => match_top q b w (by omega) (by omega) h
        have hpl : p.data.toList.length ≤ 20 := by rw [← size_eq]; exact hp
        have hql : q.data.toList.length ≤ 20 := by rw [← size_eq]; exact hq
        have hbl : b.data.toList.length ≤ 20 := by rw [← size_eq]; exact hb
        have M6 := Lib.hid fun w h => match_top ⟨(p.data.toList ++ 47 :: q.data.toList).toArray⟩ ⟨(a.data.toList ++ 47 :: b.data.toList).toArray⟩ w (show (p.data.toList ++ 47 :: q.data.toList).length < _ by simp; omega) (show (a.data.toList ++ 47 :: b.data.toList).length < _ by simp; omega) h
        have hab : (a.toList == b.toList) = decide (a.data.toList = b.data.toList) := by
          rw [toList_data, toList_data, Bool.eq_iff_iff, beq_iff_eq, decide_eq_true_eq]
        rw [show (⟨(Pn.literalP a.data.toList).toArray⟩ : ByteArray).data.toList = Pn.literalP a.data.toList from rfl, literal_top hva hva (by omega)] at M1
        rw [show (⟨(Pn.literalP a.data.toList).toArray⟩ : ByteArray).data.toList = Pn.literalP a.data.toList from rfl, literal_top hva hvb (by omega)] at M2
        rw [show (⟨#[42, 42]⟩ : ByteArray).data.toList = [42, 42] from rfl, stars_top hva] at M3
        rw [show (⟨(p.data.toList ++ 47 :: q.data.toList).toArray⟩ : ByteArray).data.toList = p.data.toList ++ 47 :: q.data.toList from rfl, show (⟨(a.data.toList ++ 47 :: b.data.toList).toArray⟩ : ByteArray).data.toList = a.data.toList ++ 47 :: b.data.toList from rfl] at M6
        have h4 := top_err p.data.toList a.data.toList
        have h5 := top_err q.data.toList b.data.toList
        have h6 := top_err (p.data.toList ++ 47 :: q.data.toList) (a.data.toList ++ 47 :: b.data.toList)
        have hj := joined_top (p := p.data.toList) (q := q.data.toList) (a := a.data.toList) (b := b.data.toList)
        have hap : Value.string ((p ++ ⟨#[47]⟩) ++ q) = S (p.data.toList ++ 47 :: q.data.toList) := by
          congr 1; ext1; simp [ByteArray.data_append]
        have haa : Value.string ((a ++ ⟨#[47]⟩) ++ b) = S (a.data.toList ++ 47 :: b.data.toList) := by
          congr 1; ext1; simp [ByteArray.data_append]
        clear hal hll hpl hql hbl
        generalize hq1 : matchTop p.data.toList a.data.toList = r1 at *
        generalize hq2 : matchTop q.data.toList b.data.toList = r2 at *
        generalize matchTop (p.data.toList ++ 47 :: q.data.toList) (a.data.toList ++ 47 :: b.data.toList) = r3 at *
        obtain ⟨m, h⟩ := r1
        obtain ⟨n, i⟩ := r2
        obtain ⟨u, k⟩ := r3
        simp only at h4 h5 h6 hj M4 M5 M6
        generalize decide (a.data.toList = b.data.toList) = z at *
        have HJ := Lib.hid hj
        have H4 := Lib.hid h4
        have H5 := Lib.hid h5
        have H6 := Lib.hid h6
        have HAP := Lib.hid hap
        have HAA := Lib.hid haa
        clear hj h4 h5 h6 hap haa hq1 hq2 hva hvb
        go_enter Tryd.func3, Tryd.ntmps3
        go_wp2_with fail
        refine (HA.out).mono ?_
        rintro e w1 ⟨rfl, hb⟩
        have B1 := Lib.hid (below_then B0.out hb)
        clear hb
        go_wp2_with fail
        refine (V1.out _ (HE.out.below B1.out)).mono ?_
        rintro e w2 ⟨rfl, hb⟩
        have B2 := Lib.hid (below_then B1.out hb)
        clear hb
        go_wp2_with fail
        refine (V2.out _ (HE.out.below B2.out)).mono ?_
        rintro e w3 ⟨rfl, hb⟩
        have B3 := Lib.hid (below_then B2.out hb)
        clear hb
        go_wp2_with fail
        refine (L1.out _).mono ?_
        rintro e w4 ⟨rfl, hb⟩
        have B4 := Lib.hid (below_then B3.out hb)
        clear hb
        go_wp2_with fail
        refine (M1.out _ (HE.out.below B4.out)).mono ?_
        rintro e w5 ⟨rfl, hb⟩
        have B5 := Lib.hid (below_then B4.out hb)
        clear hb
        go_wp2_with fail
        refine (L1.out _).mono ?_
        rintro e w6 ⟨rfl, hb⟩
        have B6 := Lib.hid (below_then B5.out hb)
        clear hb
        go_wp2_with fail
        refine (M2.out _ (HE.out.below B6.out)).mono ?_
        rintro e w7 ⟨rfl, hb⟩
        have B7 := Lib.hid (below_then B6.out hb)
        clear hb
        go_wp2_with fail
        refine (M3.out _ (HE.out.below B7.out)).mono ?_
        rintro e w8 ⟨rfl, hb⟩
        have B8 := Lib.hid (below_then B7.out hb)
        clear hb
        go_wp2_with fail
        refine (M4.out _ (HE.out.below B8.out)).mono ?_
        rintro e w9 ⟨rfl, hb⟩
        have B9 := Lib.hid (below_then B8.out hb)
        clear hb
        go_wp2_with fail
        refine (M5.out _ (HE.out.below B9.out)).mono ?_
        rintro e wa ⟨rfl, hb⟩
        have Ba := Lib.hid (below_then B9.out hb)
        clear hb
        rcases H4.out with h4 | ⟨h4, _⟩
        · subst h4
          rcases H5.out with h5 | ⟨h5, _⟩
          · subst h5
            go_wp2_with fail
            rw [HAP.out, HAA.out]
            refine (M6.out _ (HE.out.below Ba.out)).mono ?_
            rintro e wb ⟨rfl, hb⟩
            have Bb := Lib.hid (below_then Ba.out hb)
            clear hb
            rcases H6.out with h6 | ⟨h6, _⟩
            · subst h6
              cases m with
              | false =>
                go_wp2_with fail
                go_ret
                exact ⟨rfl, Bb.out⟩
              | true =>
                cases n with
                | false =>
                  go_wp2_with fail
                  go_ret
                  exact ⟨rfl, Bb.out⟩
                | true =>
                  have hu := HJ.out rfl rfl rfl
                  subst hu
                  go_wp2_with fail
                  go_ret
                  exact ⟨rfl, Bb.out⟩
            · subst h6
              go_wp2_with fail
              go_ret
              exact ⟨rfl, Bb.out⟩
          · subst h5
            go_wp2_with fail
            go_ret
            exact ⟨rfl, Ba.out⟩
        · subst h4
          go_wp2_with fail
          go_ret
          exact ⟨rfl, Ba.out⟩
  · go_enter Tryd.func3, Tryd.ntmps3
    go_wp2_with fail
    refine (HA.out).mono ?_
    rintro e w1 ⟨rfl, hb⟩
    have B1 := Lib.hid (below_then B0.out hb)
    clear hb
    go_wp2_with fail
    all_goals first
      | (go_ret; exact ⟨rfl, B1.out⟩)
      | (exfalso; apply hsz; omega)

end Go.Proofs.YtdnbmkfmckppaaaDoor
