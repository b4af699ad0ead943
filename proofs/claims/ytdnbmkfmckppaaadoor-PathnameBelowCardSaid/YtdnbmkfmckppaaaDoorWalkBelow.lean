/-
  The walk of kinkeeplaw18.PathnameBelow: it answers true.
-/
import Derived.Test.YtdnbmkfmckppaaaDoorAwake
import Derived.Test.YtdnbmkfmckppaaaDoorLiteral
import Derived.Test.YtdnbmkfmckppaaaDoorLawBelow
import Derived.Test.YtdnbmkfmckppaaaDoorIgnoredT
namespace Go.Proofs.YtdnbmkfmckppaaaDoor
open Go.RowKit Go.Lib

theorem one_cells (l : List Pn.Rule) : ∀ u ∈ ruleCells l, u.oneCell' = true := by
  intro u hu
  unfold ruleCells at hu
  obtain ⟨x, _, hx⟩ := List.mem_flatMap.1 hu
  simp at hx
  rcases hx with rfl | rfl | rfl | rfl <;> rfl

theorem empty_row (W : World) (base : Nat) (h : base ≤ W.heap.size) : (W.alloc (.cells #[] 36)).ownsRow base 36 4 (.slice (some ⟨W.heap.size, 0, none⟩) 0 0) 0 [] := by
  refine ⟨rfl, .inr ⟨W.heap.size, 0, #[], rfl, h, ?_, Nat.le_refl _, by unfold maxLen; omega, rfl, rfl⟩⟩
  exact heap_alloc_new W _

/-- 'append([]Rule{}, list...)'. -/
theorem rules_copy {W : World} {base0 : Nat} {va : Option Addr} {vc : Nat} {l : List Pn.Rule} (hm : RulesMem W base0 (.slice va l.length vc) l) (hl : l.length ≤ 256) :
    ∃ va' vc' w5, (Builtin.append_ #[29, 29] 29 #[.slice (some ⟨W.heap.size, 0, none⟩) 0 0, .slice va l.length vc]).run Tryd.prog (W.alloc (.cells #[] 36)) = .ok (.slice va' l.length vc') w5 ∧
      RulesMem w5 W.heap.size (.slice va' l.length vc') l ∧ Below W.heap.size W w5 := by
  obtain ⟨i0, hi, hz0, hz1, hz2⟩ := info_parts rule_info
  have hA : Below W.heap.size W (W.alloc (.cells #[] 36)) := (Below.refl _ W).alloc (Nat.le_refl _) _
  have hm2 := hm.alloc (.cells #[] 36)
  rcases hm.2 with ⟨h1, h2⟩ | ⟨g, cap, cur, h1, _⟩
  · injection h1 with h1 h2 h3
    obtain rfl := List.length_eq_zero_iff.1 h2
    subst h1 h3
    refine ⟨some ⟨W.heap.size, 0, none⟩, 0, W.alloc (.cells #[] 36), ?_, empty_row W _ (Nat.le_refl _), hA⟩
    simp [Builtin.append_, run_underlying Tryd.underlying29, sizeOf, typeInfo, hi, Builtin.lenOf, Builtin.firstCells, loadCells, loadCellsFrom, storeCells]
  · injection h1 with h1 h2 h3
    subst h1
    obtain ⟨v', w5, hr, h2, h3, h4⟩ := run_append_own (P := Tryd.prog) (W.alloc (.cells #[] 36)) W.heap.size 29 29 36 _ _ 4 24 Tryd.underlying29 hi hz0 hz1 hz2 rfl (by decide) _ 0 [] (empty_row W _ (Nat.le_refl _))
      ⟨g, 0, none⟩ l.length vc (ruleCells l) (ruleCells_len l) (hm2.cells rfl) (one_cells l) (by unfold maxLen; omega) (by omega) (by simp)
    rw [Nat.zero_add, List.nil_append] at h2
    obtain ⟨va', vc', hv'⟩ := own_form' h2
    subst hv'
    refine ⟨va', vc', w5, hr, h2, ?_⟩
    exact ⟨h3.os.trans hA.os, h3.tape.trans hA.tape, h3.output.trans hA.output, Nat.le_trans hA.size h3.size, fun i hi => (h3.block i (Nat.lt_of_lt_of_le hi hA.size) (fun e => by simp [Value.ownBlock] at e; omega)).trans (hA.block i hi)⟩

/-- The copy, then one rule more: the call of literal lies between the two. -/
theorem rule_more {W : World} {base : Nat} {va : Option Addr} {vc : Nat} {l : List Pn.Rule} (x : Pn.Rule) (hm : RulesMem W base (.slice va l.length vc) l) (hb : base ≤ W.heap.size) (hl : l.length ≤ 256) :
    ∃ va' vc' w5, (Builtin.append_ #[29, 29] 29 #[.slice va l.length vc, .slice (some ⟨W.heap.size, 0, none⟩) 1 1]).run Tryd.prog (W.alloc (.cells [S x.pattern, .bool x.keep, .bool x.dir, .bool x.rooted].toArray 36)) = .ok (.slice va' (l.length + 1) vc') w5 ∧
      RulesMem w5 base (.slice va' (l.length + 1) vc') (l ++ [x]) ∧ Below base W w5 := by
  obtain ⟨i0, hi, hz0, hz1, hz2⟩ := info_parts rule_info
  obtain ⟨v', w5, hrun, hown5, hgrow5, hnn⟩ := append_one (t := 29) Tryd.underlying29 hi hz0 hz1 hz2 rfl (by decide) W (.slice va l.length vc) l.length (ruleCells l) hm
    [S x.pattern, .bool x.keep, .bool x.dir, .bool x.rooted] rfl (by intro u hu; simp at hu; rcases hu with rfl | rfl | rfl | rfl <;> rfl) (by unfold maxLen; omega) (by omega) (by omega)
  obtain ⟨va', vc', hv'⟩ := own_form' hown5
  subst hv'
  refine ⟨va', vc', w5, hrun, ?_, ?_⟩
  · unfold RulesMem
    rw [ruleCells_append]
    simpa [ruleCells] using hown5
  · have hA : Below base W (W.alloc (.cells [S x.pattern, .bool x.keep, .bool x.dir, .bool x.rooted].toArray 36)) := (Below.refl _ W).alloc hb _
    exact hA.grown hgrow5 (by simp; omega) (fun k hk => (hm.lt _ hk).1)

theorem RulesMem.below' {w w' : World} {base : Nat} {v : Value} {l : List Pn.Rule} (h : RulesMem w base v l) (hb : Below w.heap.size w w') : RulesMem w' base v l :=
  h.kept (grown_below hb none) (by cases v.ownBlock <;> simp)

theorem literal_len' (a : Pn.B) (i : Nat) : (Pn.literalGo i a).length ≤ 2 * a.length := by
  induction a generalizing i with
  | nil => simp [Pn.literalGo]
  | cons c t ih =>
    have := ih (i + 1)
    rw [Pn.literalGo]
    split <;> simp <;> omega

set_option maxHeartbeats 4000000 in
set_option maxRecDepth 100000 in
theorem below_any (text path : ByteArray) (d : Bool) (w : World) (hE : Env w) : Calls Tryd.prog 4 #[.string text, .string path, .bool d] w fun e w' => e = .returned (.bool true) ∧ Below w.heap.size w w' := by
  have HA := Lib.hid (awake_any w hE)
  have HE := Lib.hid hE
  have B0 := Lib.hid (Below.refl w.heap.size w)
  clear hE
  by_cases hsz : text.size ≤ 200 ∧ path.size ≤ 40
  · obtain ⟨ht, hp⟩ := hsz
    have htz : ¬ (200 : Int) < (text.size : Int) := by omega
    have hpz : ¬ (40 : Int) < (path.size : Int) := by omega
    have V1 := Lib.hid fun w h => valid_any path w (by omega) h
    cases hv : Pn.validP path.data.toList with
    | false =>
      rw [hv] at V1
      clear hv
      go_enter Tryd.func4, Tryd.ntmps4
      go_wp2_with fail
      refine (HA.out).mono ?_
      rintro e w1 ⟨rfl, hb⟩
      have B1 := Lib.hid (below_then B0.out hb)
      clear hb
      go_wp2_with fail
      refine (V1.out _ (HE.out.below B1.out)).mono ?_
      rintro e w2 ⟨rfl, hb⟩
      have B2 := Lib.hid (below_then B1.out hb)
      clear hb
      go_wp2_with fail
      go_ret
      exact ⟨rfl, B2.out⟩
    | true =>
      rw [hv] at V1
      have P1 := Lib.hid fun w h => parse_any text w (by omega) h
      unfold ParseOk at P1
      by_cases hpe : (Pn.parseP text.data.toList).2.2 = 0
      · obtain ⟨hg, hn0, hpl⟩ := parse_good hpe
        have htl : text.data.toList.length ≤ 200 := by rw [← size_eq]; exact ht
        have hpal : path.data.toList.length ≤ 40 := by rw [← size_eq]; exact hp
        rw [hpe, hn0] at P1
        generalize (Pn.parseP text.data.toList).1 = l at *
        have hgl := hg
        unfold Pn.goodRules at hgl
        simp only [Bool.and_eq_true, decide_eq_true_eq] at hgl
        have h256 : l.length ≤ 256 := hgl.1
        have hll := literal_len' path.data.toList 0
        have hkp : ∀ (k : Bool), ∀ x ∈ l ++ [litRule path.data.toList k], x.pattern.length < 4294967281 := by
          intro k x hx
          rcases List.mem_append.1 hx with hx | hx
          · have := hpl x hx; omega
          · simp only [List.mem_singleton] at hx
            subst hx
            show (Pn.literalGo 0 path.data.toList).length < _; omega
        have I1 := Lib.hid fun va vc w h hr => ignored_top l va vc path d w (by omega) (fun x hx => by have := hpl x hx; omega) (by omega) h hr
        have e1 : ignoredTop l path.data.toList d = (Pn.ignoredP l path.data.toList d, 0) := by unfold ignoredTop; rw [hg, hv]; rfl
        rw [e1] at I1
        have IK := Lib.hid fun va vc w h hr => ignored_top (l ++ [litRule path.data.toList true]) va vc path d w (by simp; omega) (hkp true) (by omega) h hr
        have IO := Lib.hid fun va vc w h hr => ignored_top (l ++ [litRule path.data.toList false]) va vc path d w (by simp; omega) (hkp false) (by omega) h hr
        have PA := Lib.hid fun w h => parent_any path w (by omega) h
        unfold ParentOk at PA
        simp only [hv, ↓reduceIte] at PA
        have LIT := Lib.hid fun w => literal_any path w (by omega)
        have hup : Pn.parentP path.data.toList = [] ∨ Pn.validP (Pn.parentP path.data.toList) = true := parent_valid hv
        have hupl : (Pn.parentP path.data.toList).length < path.data.toList.length := parent_len (valid_ne hv)
        have I2 := Lib.hid fun va vc w h hr => ignored_top l va vc ⟨(Pn.parentP path.data.toList).toArray⟩ true w (by omega) (fun x hx => by have := hpl x hx; omega) (show (Pn.parentP path.data.toList).length < _ by omega) h hr
        have hK : l.length ≤ 255 → ignoredTop (l ++ [litRule path.data.toList true]) path.data.toList d = (Pn.ignoredP l (Pn.parentP path.data.toList) true, 0) := fun h => by
          unfold ignoredTop; rw [good_snoc hg hv (by omega) true h, hv, lit_kept hv (by omega)]; rfl
        have hO : l.length ≤ 255 → ignoredTop (l ++ [litRule path.data.toList false]) path.data.toList d = (true, 0) := fun h => by
          unfold ignoredTop; rw [good_snoc hg hv (by omega) false h, hv, lit_gone hv (by omega)]; rfl
        have hI := below_is l hv d
        have HK := Lib.hid hK
        have HO := Lib.hid hO
        have HI := Lib.hid hI
        clear hK hO hI hkp hll hgl e1 hpl
        generalize Pn.ignoredP l path.data.toList d = is at *
        rcases hup with hup | hup
        · have hq : (Pn.parentP path.data.toList == []) = true := by rw [hup]; rfl
          have hab : Pn.ignoredP l (Pn.parentP path.data.toList) true = false := by rw [hup]; exact ignoredP_nil l true
          rw [hab] at HK HI
          have HAB := Lib.hid hab
          clear hab hup
          go_enter Tryd.func4, Tryd.ntmps4
          go_wp2_with fail
          refine (HA.out).mono ?_
          rintro e w1 ⟨rfl, hb⟩
          have B1 := Lib.hid (below_then B0.out hb)
          clear hb
          go_wp2_with fail
          refine (V1.out _ (HE.out.below B1.out)).mono ?_
          rintro e w2 ⟨rfl, hb⟩
          have B2 := Lib.hid (below_then B1.out hb)
          clear hb
          go_wp2_with fail
          refine (P1.out _ (HE.out.below B2.out)).mono ?_
          rintro e w3 ⟨hb, va, vc, rfl, hm⟩
          have B3 := Lib.hid (below_then B2.out hb)
          have HM3 := Lib.hid hm
          clear hb hm
          go_wp2_with fail
          refine (I1.out _ _ _ (HE.out.below B3.out) (rulesAt_of HM3.out)).mono ?_
          rintro e w3b ⟨rfl, hb⟩
          have B3b := Lib.hid (below_then B3.out hb)
          have HM3b := Lib.hid (RulesMem.below' HM3.out hb)
          clear hb
          go_wp2_with fail
          refine (PA.out _ (HE.out.below B3b.out)).mono ?_
          rintro e w4 ⟨hb, rfl⟩
          have B4 := Lib.hid (below_then B3b.out hb)
          have HM4 := Lib.hid (RulesMem.below' HM3b.out hb)
          clear hb
          obtain ⟨va6, vc6, x6, hrun, hmA, hbA⟩ := rules_copy HM4.out h256
          have RUNA6 := Lib.hid hrun
          have MA6 := Lib.hid hmA
          have BA6 := Lib.hid hbA
          clear hrun hmA hbA
          go_wp2_with (at_builtin; refine wpList_append_run rfl _ _ 29 rfl _ _ rfl rfl _ _ rfl RUNA6.out ?_)
          refine (LIT.out _).mono ?_
          rintro e y6 ⟨rfl, hb⟩
          obtain ⟨vb6, vd6, w6, hrun, hmB, hbB⟩ := rule_more (litRule path.data.toList true) (RulesMem.below' MA6.out hb) (Nat.le_trans BA6.out.size hb.size) h256
          have RUNB6 := Lib.hid hrun
          have MB6 := Lib.hid hmB
          have hall : Below w4.heap.size w4 w6 := (BA6.out.trans (hb.mono BA6.out.size)).trans hbB
          have B6 := Lib.hid (below_then B4.out hall)
          have HM6 := Lib.hid (RulesMem.below' HM4.out hall)
          have hlen6 : (l ++ [litRule path.data.toList true]).length = l.length + 1 := by simp
          have AT6 := Lib.hid (rulesAt_of (show RulesMem w6 w4.heap.size (.slice vb6 (l ++ [litRule path.data.toList true]).length vd6) (l ++ [litRule path.data.toList true]) from by rw [hlen6]; exact hmB))
          clear hrun hmB hbB hall hb
          go_wp2_with (at_builtin; refine wpList_append_run rfl _ _ 29 rfl _ _ rfl rfl _ _ rfl RUNB6.out ?_)
          rw [hlen6.symm]
          refine (IK.out _ _ _ (HE.out.below B6.out) AT6.out).mono ?_
          rintro e w7 ⟨rfl, hb⟩
          have B7 := Lib.hid (below_then B6.out hb)
          have HM7 := Lib.hid (RulesMem.below' HM6.out hb)
          clear hb
          obtain ⟨va8, vc8, x8, hrun, hmA, hbA⟩ := rules_copy HM7.out h256
          have RUNA8 := Lib.hid hrun
          have MA8 := Lib.hid hmA
          have BA8 := Lib.hid hbA
          clear hrun hmA hbA
          go_wp2_with (at_builtin; refine wpList_append_run rfl _ _ 29 rfl _ _ rfl rfl _ _ rfl RUNA8.out ?_)
          refine (LIT.out _).mono ?_
          rintro e y8 ⟨rfl, hb⟩
          obtain ⟨vb8, vd8, w8, hrun, hmB, hbB⟩ := rule_more (litRule path.data.toList false) (RulesMem.below' MA8.out hb) (Nat.le_trans BA8.out.size hb.size) h256
          have RUNB8 := Lib.hid hrun
          have MB8 := Lib.hid hmB
          have hall : Below w7.heap.size w7 w8 := (BA8.out.trans (hb.mono BA8.out.size)).trans hbB
          have B8 := Lib.hid (below_then B7.out hall)
          have HM8 := Lib.hid (RulesMem.below' HM7.out hall)
          have hlen8 : (l ++ [litRule path.data.toList false]).length = l.length + 1 := by simp
          have AT8 := Lib.hid (rulesAt_of (show RulesMem w8 w7.heap.size (.slice vb8 (l ++ [litRule path.data.toList false]).length vd8) (l ++ [litRule path.data.toList false]) from by rw [hlen8]; exact hmB))
          clear hrun hmB hbB hall hb
          go_wp2_with (at_builtin; refine wpList_append_run rfl _ _ 29 rfl _ _ rfl rfl _ _ rfl RUNB8.out ?_)
          rw [hlen8.symm]
          refine (IO.out _ _ _ (HE.out.below B8.out) AT8.out).mono ?_
          rintro e w9 ⟨rfl, hb⟩
          have B9 := Lib.hid (below_then B8.out hb)
          clear hb
          by_cases h255 : l.length ≤ 255
          · have hz : ¬ (255 : Int) < (l.length : Int) := by omega
            rw [HK.out h255, HO.out h255]
            cases is
            · go_wp2_with fail
              go_ret
              exact ⟨rfl, B9.out⟩
            · go_wp2_with fail
              go_ret
              exact ⟨rfl, B9.out⟩
          · have hz : (255 : Int) < (l.length : Int) := by omega
            go_wp2_with fail
            go_ret
            exact ⟨rfl, B9.out⟩
        · have hq : (Pn.parentP path.data.toList == []) = false := by rw [beq_eq_false_iff_ne]; exact valid_ne hup
          have e2 : ignoredTop l (Pn.parentP path.data.toList) true = (Pn.ignoredP l (Pn.parentP path.data.toList) true, 0) := by unfold ignoredTop; rw [hg, hup]; rfl
          rw [show (⟨(Pn.parentP path.data.toList).toArray⟩ : ByteArray).data.toList = Pn.parentP path.data.toList from rfl, e2] at I2
          clear e2 hup
          generalize Pn.ignoredP l (Pn.parentP path.data.toList) true = ab at *
          go_enter Tryd.func4, Tryd.ntmps4
          go_wp2_with fail
          refine (HA.out).mono ?_
          rintro e w1 ⟨rfl, hb⟩
          have B1 := Lib.hid (below_then B0.out hb)
          clear hb
          go_wp2_with fail
          refine (V1.out _ (HE.out.below B1.out)).mono ?_
          rintro e w2 ⟨rfl, hb⟩
          have B2 := Lib.hid (below_then B1.out hb)
          clear hb
          go_wp2_with fail
          refine (P1.out _ (HE.out.below B2.out)).mono ?_
          rintro e w3 ⟨hb, va, vc, rfl, hm⟩
          have B3 := Lib.hid (below_then B2.out hb)
          have HM3 := Lib.hid hm
          clear hb hm
          go_wp2_with fail
          refine (I1.out _ _ _ (HE.out.below B3.out) (rulesAt_of HM3.out)).mono ?_
          rintro e w3b ⟨rfl, hb⟩
          have B3b := Lib.hid (below_then B3.out hb)
          have HM3b := Lib.hid (RulesMem.below' HM3.out hb)
          clear hb
          go_wp2_with fail
          refine (PA.out _ (HE.out.below B3b.out)).mono ?_
          rintro e w4 ⟨hb, rfl⟩
          have B4 := Lib.hid (below_then B3b.out hb)
          have HM4 := Lib.hid (RulesMem.below' HM3b.out hb)
          clear hb
          go_wp2_with fail
          refine (I2.out _ _ _ (HE.out.below B4.out) (rulesAt_of HM4.out)).mono ?_
          rintro e w5 ⟨rfl, hb⟩
          have B5 := Lib.hid (below_then B4.out hb)
          have HM5 := Lib.hid (RulesMem.below' HM4.out hb)
          clear hb
          obtain ⟨va6, vc6, x6, hrun, hmA, hbA⟩ := rules_copy HM5.out h256
          have RUNA6 := Lib.hid hrun
          have MA6 := Lib.hid hmA
          have BA6 := Lib.hid hbA
          clear hrun hmA hbA
          go_wp2_with (at_builtin; refine wpList_append_run rfl _ _ 29 rfl _ _ rfl rfl _ _ rfl RUNA6.out ?_)
          refine (LIT.out _).mono ?_
          rintro e y6 ⟨rfl, hb⟩
          obtain ⟨vb6, vd6, w6, hrun, hmB, hbB⟩ := rule_more (litRule path.data.toList true) (RulesMem.below' MA6.out hb) (Nat.le_trans BA6.out.size hb.size) h256
          have RUNB6 := Lib.hid hrun
          have MB6 := Lib.hid hmB
          have hall : Below w5.heap.size w5 w6 := (BA6.out.trans (hb.mono BA6.out.size)).trans hbB
          have B6 := Lib.hid (below_then B5.out hall)
          have HM6 := Lib.hid (RulesMem.below' HM5.out hall)
          have hlen6 : (l ++ [litRule path.data.toList true]).length = l.length + 1 := by simp
          have AT6 := Lib.hid (rulesAt_of (show RulesMem w6 w5.heap.size (.slice vb6 (l ++ [litRule path.data.toList true]).length vd6) (l ++ [litRule path.data.toList true]) from by rw [hlen6]; exact hmB))
          clear hrun hmB hbB hall hb
          go_wp2_with (at_builtin; refine wpList_append_run rfl _ _ 29 rfl _ _ rfl rfl _ _ rfl RUNB6.out ?_)
          rw [hlen6.symm]
          refine (IK.out _ _ _ (HE.out.below B6.out) AT6.out).mono ?_
          rintro e w7 ⟨rfl, hb⟩
          have B7 := Lib.hid (below_then B6.out hb)
          have HM7 := Lib.hid (RulesMem.below' HM6.out hb)
          clear hb
          obtain ⟨va8, vc8, x8, hrun, hmA, hbA⟩ := rules_copy HM7.out h256
          have RUNA8 := Lib.hid hrun
          have MA8 := Lib.hid hmA
          have BA8 := Lib.hid hbA
          clear hrun hmA hbA
          go_wp2_with (at_builtin; refine wpList_append_run rfl _ _ 29 rfl _ _ rfl rfl _ _ rfl RUNA8.out ?_)
          refine (LIT.out _).mono ?_
          rintro e y8 ⟨rfl, hb⟩
          obtain ⟨vb8, vd8, w8, hrun, hmB, hbB⟩ := rule_more (litRule path.data.toList false) (RulesMem.below' MA8.out hb) (Nat.le_trans BA8.out.size hb.size) h256
          have RUNB8 := Lib.hid hrun
          have MB8 := Lib.hid hmB
          have hall : Below w7.heap.size w7 w8 := (BA8.out.trans (hb.mono BA8.out.size)).trans hbB
          have B8 := Lib.hid (below_then B7.out hall)
          have HM8 := Lib.hid (RulesMem.below' HM7.out hall)
          have hlen8 : (l ++ [litRule path.data.toList false]).length = l.length + 1 := by simp
          have AT8 := Lib.hid (rulesAt_of (show RulesMem w8 w7.heap.size (.slice vb8 (l ++ [litRule path.data.toList false]).length vd8) (l ++ [litRule path.data.toList false]) from by rw [hlen8]; exact hmB))
          clear hrun hmB hbB hall hb
          go_wp2_with (at_builtin; refine wpList_append_run rfl _ _ 29 rfl _ _ rfl rfl _ _ rfl RUNB8.out ?_)
          rw [hlen8.symm]
          refine (IO.out _ _ _ (HE.out.below B8.out) AT8.out).mono ?_
          rintro e w9 ⟨rfl, hb⟩
          have B9 := Lib.hid (below_then B8.out hb)
          clear hb
          by_cases h255 : l.length ≤ 255
          · have hz : ¬ (255 : Int) < (l.length : Int) := by omega
            rw [HK.out h255, HO.out h255]
            cases ab with
            | false =>
              cases is
              · go_wp2_with fail
                go_ret
                exact ⟨rfl, B9.out⟩
              · go_wp2_with fail
                go_ret
                exact ⟨rfl, B9.out⟩
            | true =>
              have his := HI.out rfl
              subst his
              go_wp2_with fail
              go_ret
              exact ⟨rfl, B9.out⟩
          · have hz : (255 : Int) < (l.length : Int) := by omega
            go_wp2_with fail
            go_ret
            exact ⟨rfl, B9.out⟩
      · have hpz : ((Pn.parseP text.data.toList).2.2 == 0) = false := by rw [beq_eq_false_iff_ne]; exact hpe
        generalize Pn.parseP text.data.toList = r at *
        obtain ⟨l, n, ec⟩ := r
        simp only at hpz P1
        go_enter Tryd.func4, Tryd.ntmps4
        go_wp2_with fail
        refine (HA.out).mono ?_
        rintro e w1 ⟨rfl, hb⟩
        have B1 := Lib.hid (below_then B0.out hb)
        clear hb
        go_wp2_with fail
        refine (V1.out _ (HE.out.below B1.out)).mono ?_
        rintro e w2 ⟨rfl, hb⟩
        have B2 := Lib.hid (below_then B1.out hb)
        clear hb
        go_wp2_with fail
        refine (P1.out _ (HE.out.below B2.out)).mono ?_
        rintro e w3 ⟨hb, va, vc, rfl, _⟩
        have B3 := Lib.hid (below_then B2.out hb)
        clear hb
        go_wp2_with fail
        go_ret
        exact ⟨rfl, B3.out⟩
  · go_enter Tryd.func4, Tryd.ntmps4
    go_wp2_with fail
    refine (HA.out).mono ?_
    rintro e w1 ⟨rfl, hb⟩
    have B1 := Lib.hid (below_then B0.out hb)
    clear hb
    go_wp2_with fail
    all_goals first
      | (go_ret; exact ⟨rfl, B1.out⟩)
      | (exfalso; apply hsz; omega)

end Go.Proofs.YtdnbmkfmckppaaaDoor
