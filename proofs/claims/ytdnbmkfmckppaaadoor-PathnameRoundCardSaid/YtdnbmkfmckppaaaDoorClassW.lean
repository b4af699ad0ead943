/-
  The walk of pathname's scanner.class. PRINTED BY A PROGRAM OF THIS REPO (wip/tpl/gen_classw.py).
-/
import Derived.Test.YtdnbmkfmckppaaaDoorClass
namespace Go.Proofs.YtdnbmkfmckppaaaDoor
open Go.RowKit Go.Lib

theorem own_form' {w : World} {base : Nat} {e : TypeId} {size : Nat} {v : Value} {n : Nat} {xs : List Value} (h : w.ownsRow base e size v n xs) : ∃ a c, v = .slice a n c := by
  rcases h.2 with ⟨rfl, rfl⟩ | ⟨g, cap, cur, rfl, _⟩
  · exact ⟨_, _, rfl⟩
  · exact ⟨_, _, rfl⟩

theorem go_step_none {n : Nat} {sp : List (Nat × Nat)} {l : List Nat} (hc : sp = [] ∨ l.head? ≠ some 93) (hs : Pn.spanP l = none) : Pn.classGo (n + 1) sp l = none := by
  rw [Pn.classGo]
  have : (!sp.isEmpty && l.head? == some 93) = false := by
    rcases hc with rfl | h
    · rfl
    · have : (l.head? == some 93) = false := beq_eq_false_iff_ne.2 h
      rw [this, Bool.and_false]
  rw [this, hs]; rfl
theorem go_step_some {n : Nat} {sp : List (Nat × Nat)} {l u : List Nat} {s : Nat × Nat} (hc : sp = [] ∨ l.head? ≠ some 93) (hs : Pn.spanP l = some (s, u)) : Pn.classGo (n + 1) sp l = Pn.classGo n (sp ++ [s]) u := by
  rw [Pn.classGo]
  have : (!sp.isEmpty && l.head? == some 93) = false := by
    rcases hc with rfl | h
    · rfl
    · have : (l.head? == some 93) = false := beq_eq_false_iff_ne.2 h
      rw [this, Bool.and_false]
  rw [this, hs]; rfl
theorem go_none {RES : Option (List (Nat × Nat) × List Nat)} {sp : List (Nat × Nat)} {l : List Nat} (h : ∃ n, l.length < n ∧ Pn.classGo n sp l = RES) (hc : sp = [] ∨ l.head? ≠ some 93) (hs : Pn.spanP l = none) : RES = none := by
  obtain ⟨n, hn, rfl⟩ := h
  obtain ⟨m, rfl⟩ : ∃ m, n = m + 1 := ⟨n - 1, by omega⟩
  exact go_step_none hc hs
theorem go_some {RES : Option (List (Nat × Nat) × List Nat)} {sp : List (Nat × Nat)} {l u : List Nat} {s : Nat × Nat} (h : ∃ n, l.length < n ∧ Pn.classGo n sp l = RES) (hc : sp = [] ∨ l.head? ≠ some 93) (hs : Pn.spanP l = some (s, u)) : ∃ n, u.length < n ∧ Pn.classGo n (sp ++ [s]) u = RES := by
  obtain ⟨n, hn, rfl⟩ := h
  obtain ⟨m, rfl⟩ : ∃ m, n = m + 1 := ⟨n - 1, by omega⟩
  have := Pn.spanP_lt hs
  exact ⟨m, by omega, (go_step_some hc hs).symm⟩
theorem go_done {RES : Option (List (Nat × Nat) × List Nat)} {sp : List (Nat × Nat)} {l : List Nat} (h : ∃ n, l.length < n ∧ Pn.classGo n sp l = RES) (hne : sp ≠ []) (hs : l.head? = some 93) : RES = some (sp, l.tail) := by
  obtain ⟨n, hn, rfl⟩ := h
  obtain ⟨m, rfl⟩ : ∃ m, n = m + 1 := ⟨n - 1, by omega⟩
  rw [Pn.classGo, if_pos (by simp [hs, hne])]

/-- The relation at the head of class's loop. -/
def ClassRel (w : World) (b R cap : Nat) (rs : List Nat) (neg : Bool) (RES : Option (List (Nat × Nat) × List Nat)) (k0 gg : Nat) (wr : World) : Prop :=
  ∃ k' bad va vc sp, ClassMem w b R cap rs neg k' bad va vc sp wr ∧ k0 ≤ k' ∧ sp.length ≤ k' + (if bad then 1 else 0) ∧ (Value.slice va sp.length vc = .slice none 0 0 ∨ sp ≠ []) ∧ (bad = true → RES = none) ∧ (bad = false → ∃ n, (rs.drop k').length < n ∧ Pn.classGo n sp (rs.drop k') = RES) ∧ 2 * (rs.length - k') + (if bad then 0 else 1) ≤ gg

/-- The end of class. -/
theorem class_end {b R cap : Nat} {rs : List Nat} {k k2 : Nat} {w w1 W : World} {neg bad' : Bool} {va : Option Addr} {vc : Nat} {sp : List (Nat × Nat)}
    (hm : ClassMem w b R cap rs neg k2 bad' va vc sp w1) (hg : w1.grownBy W (some w.heap.size)) (hk : k ≤ k2)
    (hcl : Pn.classTop (rs.drop k) = if bad' then none else some (⟨false, neg, sp⟩, rs.drop k2)) :
    ClassOk b R cap rs k w (.returned (.agg #[.bool false, .bool neg, .slice va sp.length vc])) W := by
  have hl := hm.lt
  have hR := hm.ltR
  refine ⟨k2, _, neg, rfl, ⟨_, _, _, rfl⟩, ?_, grown_new hm.grown hg (Nat.le_refl _), hk, ?_⟩
  · have := hm.scan.kept hg (fun e => by have := Option.some.inj e; omega) (fun e => by have := Option.some.inj e; omega)
    rw [hcl]; cases bad' <;> exact this
  · intro x u hx
    rw [hcl] at hx
    cases bad' with
    | true => cases hx
    | false =>
      simp at hx
      obtain ⟨rfl, rfl⟩ := hx
      refine ⟨rfl, rfl, rfl, ?_⟩
      exact (own_mono hm.own (by omega)).kept hg (own_ne hm.own hm.rb (by decide))


theorem isSome_lt {l : List Nat} {lo k k1 : Nat} {m : List Nat} (h : ∀ x u, Pn.elementP l = some (x, u) → lo = x ∧ m = u ∧ k < k1) (hn : (Pn.elementP l).isNone = false) : k < k1 := by
  rcases hq : Pn.elementP l with _ | ⟨x, u⟩
  · rw [hq] at hn; cases hn
  · exact (h x u hq).2.2

set_option maxHeartbeats 4000000 in
set_option maxRecDepth 100000 in
theorem class_plain (b R cap : Nat) (rs : List Nat) (k : Nat) (w : World) (h : Scan w b R cap rs k false) (hRlt : R < w.heap.size) (hc : ((rs.drop k).head? == some 94) = false) :
    Calls Tryd.prog 77 #[.pointer (some ⟨b, 0, none⟩)] w (ClassOk b R cap rs k w) := by
  obtain ⟨i0, hi, hz0, hz1, hz2⟩ := info_parts span_info
  have hP := peek_any b R cap rs k false 94
  have hlb := lt_of_block h.block
  have c1 := cell_of_block' h.block 1
  have f1 := free_of_block h.block 1
  simp at c1
  have hsm := h.small
  have hle := h.le
  have H := Lib.hid h
  clear h
  have hbb : Below w.heap.size w ((w.alloc (.cells #[.bool false, .bool false, .slice none 0 0] 106)).alloc (.cells #[.bool false, .bool false, .slice none 0 0] 106)) := ((Below.refl _ w).alloc (Nat.le_refl _) _).alloc (by simp) _
  rw [hc] at hP
  have hP := Lib.hid (hP _ (H.out.grown hbb))
  have HB := Lib.hid hbb
  have HC := Lib.hid hc
  clear hbb hc
  have H0 := Lib.hid (show ClassMem w b R cap rs false k false none 0 [] ((w.alloc (.cells #[.bool false, .bool false, .slice none 0 0] 106)).alloc (.cells #[.bool false, .bool false, .slice none 0 0] 106)) from
    ⟨H.out.grown HB.out, (two_new _ _).2, (two_new _ _).1, World.ownsRow_nil _ _ _ _, grown_below HB.out _, by simp, hlb, hRlt⟩)
  go_enter Tryd.func77, Tryd.ntmps77
  go_wp2_with (go_at_call 91; refine hP.out.mono ?_; rintro e w' ⟨rfl, q, rfl⟩)
  go_loopg [4, 5] (2 * (rs.length - k) + 1) (fun gg _ _ wr => ClassRel w b R cap rs false (Pn.classP [] (rs.drop k)) k gg wr ∧ True)
  case atStart =>
    exact ⟨⟨k, false, none, 0, [], H0.out.kept (H0.out.scan.grown (below_drewN (Below.refl _ _) q)) (grown_drewN (grown_refl _ _) q), Nat.le_refl _, Nat.zero_le _, .inl rfl, fun h => by (cases h), fun _ => ⟨_, Nat.lt_succ_self _, rfl⟩, by simp⟩, trivial⟩
  case round =>
    obtain ⟨⟨k', bad, va, vc, sp, hm, hk0, hsp, hnil, hR1, hR0, hgg⟩, -⟩ := hrel
    have HM := Lib.hid hm
    have HR1 := Lib.hid hR1
    have HR0 := Lib.hid hR0
    have HN := Lib.hid hnil
    have d2 := cell_of_block' hm.scan.block 2
    have x2 := cell_of_block' hm.xb 2
    simp at d2 x2
    clear hm hR1 hR0 hnil
    cases bad with
    | true =>
      go_wp2_with fail
      refine (next_any b R cap rs k' true wr HM.out.scan).mono ?_
      rintro e w1 ⟨r, k2, rfl, hS1, hk2s, hk2, hg1⟩
      have HM1 := Lib.hid (HM.out.kept hS1 hg1)
      have HK2 := Lib.hid hk2s
      have y0 := cell_of_block' HM1.out.xb 0
      have y1 := cell_of_block' HM1.out.xb 1
      have y2 := cell_of_block' HM1.out.xb 2
      have z0 := free_of_block HM1.out.rb 0
      have z1 := free_of_block HM1.out.rb 1
      have z2 := free_of_block HM1.out.rb 2
      have v0 := cell_of_block' HM1.out.rb 0
      have v1 := cell_of_block' HM1.out.rb 1
      have v2 := cell_of_block' HM1.out.rb 2
      simp at y0 y1 y2 v0 v1 v2
      have Z := Lib.hid HM1.out.rb
      clear hS1 hg1 hk2s
      go_wp2_with fail
      have E := block_set (block_set (block_set Z.out 0 (.bool false)) 1 (.bool false)) 2 (.slice va sp.length vc)
      simp at E
      have e0 := cell_of_block' E 0
      have e1 := cell_of_block' E 1
      have e2 := cell_of_block' E 2
      simp at e0 e1 e2
      refine bodyPost_ret (v := .agg #[.bool false, .bool false, .slice va sp.length vc]) (by simp [results, Tryd.results77, go_sem, e0, e1, e2]) rfl ?_
      have hgw := grown_setCell (i := 2) (grown_setCell (i := 1) (grown_setCell (i := 0) (grown_refl w1 (some w.heap.size)) (.bool false)) (.bool false)) (.slice va sp.length vc)
      refine class_end HM1.out hgw (by omega) ?_

      unfold Pn.classTop; rw [if_neg (by have := HC.out; rw [beq_eq_false_iff_ne] at this; exact this)]
      have hres := HR1.out
      simp only [true_implies] at hres
      rw [hres]
      simp
    | false =>
      have HR0' := Lib.hid (HR0.out rfl)
      have hgg2 : 2 * (rs.length - k') + 1 ≤ gk := by simpa using hgg
      have hsp : sp.length ≤ k' := by simpa using hsp
      by_cases hs0 : sp = []
      · have hl0 : ((sp.length : Int) == 0) = true := by rw [hs0]; rfl
        have HT := Lib.hid (show sp = [] ∨ (rs.drop k').head? ≠ some 93 from .inl hs0)
        clear hs0
        have HMx := HM
        go_wp2_with fail
        refine (element_all b R cap rs k' false wr HMx.out.scan).mono ?_
        rintro e w1 ⟨lo, k1, rfl, hk1, hS1, hg1, hq1⟩
        have HM1 := Lib.hid (HMx.out.kept hS1 hg1)
        have HSR := Lib.hid (span_read rs k' k1 lo hq1)
        have HQ1 := Lib.hid hq1
        have HS1 := Lib.hid hS1
        clear hS1 hg1 hq1
        have hle1 := HS1.out.le
        have hsm1 := HS1.out.small
        have hP2 := peek_any b R cap rs k1 _ 45 w1 HS1.out
        cases hB2 : ((rs.drop k1).head? == some 45) with
        | true =>
          rw [hB2] at hP2
          have HP2 := Lib.hid hP2
          have HB2 := Lib.hid (beq_iff_eq.1 hB2)
          have hlt1 : k1 < rs.length := by
            rcases Nat.lt_or_ge k1 rs.length with h | h
            · exact h
            · rw [List.drop_eq_nil_of_le h] at hB2; cases hB2
          have b1 := cell_of_block' HS1.out.block 1
          have g1 := free_of_block HS1.out.block 1
          simp at b1
          clear hP2 hB2
          go_wp2_with fail
          refine HP2.out.mono ?_
          rintro e w2 ⟨rfl, q2, rfl⟩
          go_wp2_with fail
          have hS2 := HS1.out.setAt hlt1 q2
          have HM2 := Lib.hid (HM1.out.kept hS2 (grown_setCell (grown_drewN (grown_refl _ _) q2) _))
          refine (element_all b R cap rs (k1 + 1) _ _ hS2).mono ?_
          clear hS2
          rintro e w3 ⟨hi2, k2, rfl, hk2, hS3, hg3, hq3⟩
          have HM3 := Lib.hid (HM2.out.kept hS3 hg3)
          have HSR3 := Lib.hid fun h => HSR.out.2.2 HB2.out h k2 hi2 hq3
          have HQ3 := Lib.hid hq3
          clear hS3 hg3 hq3
          rw [Bool.false_or] at HM3
          cases hbd : (Pn.elementP (rs.drop k')).isNone with
          | true =>
            rw [hbd, Bool.true_or] at HM3
            have HRES := Lib.hid (go_none HR0'.out HT.out (HSR.out.1 hbd))
            clear hbd
            have hsp2 : sp.length + 1 ≤ 4294967281 := by have := HM3.out.scan.small; have := HM3.out.scan.le; omega
            have hm4 : ClassMem w b R cap rs false k2 true va vc sp (w3.setCell ⟨b, 2, none⟩ (.bool true)) := HM3.out.kept (HM3.out.scan.setBad true) (grown_setCell (grown_refl _ _) _)
            obtain ⟨v', w5, hrun, hown5, hgrow5, hnn⟩ := append_one (t := 104) Tryd.underlying104 hi hz0 hz1 hz2 rfl (by decide) (w3.setCell ⟨b, 2, none⟩ (.bool true)) (.slice va sp.length vc) sp.length (spanCells sp) hm4.own
              [.int .i32 (lo : Int), .int .i32 (hi2 : Int)] rfl (by intro u hu; simp at hu; rcases hu with rfl | rfl <;> rfl) (by unfold maxLen; omega) (by omega) hm4.base
            obtain ⟨va', vc', hv'⟩ := own_form' hown5
            subst hv'
            have HM5 := Lib.hid (HM3.out.step true lo hi2 va' vc' hown5 hgrow5)
            have hx5 : w5.heap[w.heap.size + 1]? = some (.cells #[.bool false, .bool false, .slice va sp.length vc] 106) := by
              have hm4' := hm4.kept (hm4.scan.grown ((Below.refl _ _).alloc (Nat.le_refl _) (.cells [Value.int .i32 (lo : Int), .int .i32 (hi2 : Int)].toArray 109))) (World.grownBy_alloc _ _ _)
              rw [hgrow5.block _ (lt_of_block hm4'.xb) (fun e => by have := (HM3.out.own.lt _ e.symm).1; omega)]; exact hm4'.xb
            have fx5 := free_of_block hx5 2
            have cx5 := cell_of_block' hx5 2
            have cb2 := cell_of_block' HM3.out.scan.block 2
            have fb2 := free_of_block HM3.out.scan.block 2
            have cx4 := cell_of_block' hm4.xb 2
            have hsz4 : (w3.setCell ⟨b, 2, none⟩ (.bool true)).heap.size = w3.heap.size := by simp [World.setCell]
            rw [hsz4] at hrun
            simp at cb2 cx4 cx5
            have HRUN := Lib.hid hrun
            clear hrun hown5 hgrow5 hx5 hm4 hsz4
            go_wp2_with (at_builtin; refine wpList_append_run rfl _ _ 104 rfl _ _ rfl rfl _ _ rfl HRUN.out ?_)
            go_roundg (2 * (rs.length - k2) + (if true then 0 else 1))
            case measure => simp; omega
            case rel => exact ⟨⟨k2, true, va', vc', sp ++ [(lo, hi2)], HM5.out, by omega, by simp; omega, .inr (by simp), fun _ => HRES.out, fun h => by (cases h), by simp⟩, trivial⟩
          | false =>
            have HX1 := Lib.hid (HSR3.out hbd)
            rw [hbd, Bool.false_or] at HM3
            have HL1 := Lib.hid (isSome_lt HQ1.out hbd)
            clear hbd
            cases hbe : (Pn.elementP (rs.drop (k1 + 1))).isNone with
            | true =>
              rw [hbe] at HM3
              have HRES := Lib.hid (go_none HR0'.out HT.out (HX1.out.1 hbe))
              clear hbe
              have hsp2 : sp.length + 1 ≤ 4294967281 := by have := HM3.out.scan.small; have := HM3.out.scan.le; omega
              have hm4 : ClassMem w b R cap rs false k2 true va vc sp (w3.setCell ⟨b, 2, none⟩ (.bool true)) := HM3.out.kept (HM3.out.scan.setBad true) (grown_setCell (grown_refl _ _) _)
              obtain ⟨v', w5, hrun, hown5, hgrow5, hnn⟩ := append_one (t := 104) Tryd.underlying104 hi hz0 hz1 hz2 rfl (by decide) (w3.setCell ⟨b, 2, none⟩ (.bool true)) (.slice va sp.length vc) sp.length (spanCells sp) hm4.own
                [.int .i32 (lo : Int), .int .i32 (hi2 : Int)] rfl (by intro u hu; simp at hu; rcases hu with rfl | rfl <;> rfl) (by unfold maxLen; omega) (by omega) hm4.base
              obtain ⟨va', vc', hv'⟩ := own_form' hown5
              subst hv'
              have HM5 := Lib.hid (HM3.out.step true lo hi2 va' vc' hown5 hgrow5)
              have hx5 : w5.heap[w.heap.size + 1]? = some (.cells #[.bool false, .bool false, .slice va sp.length vc] 106) := by
                have hm4' := hm4.kept (hm4.scan.grown ((Below.refl _ _).alloc (Nat.le_refl _) (.cells [Value.int .i32 (lo : Int), .int .i32 (hi2 : Int)].toArray 109))) (World.grownBy_alloc _ _ _)
                rw [hgrow5.block _ (lt_of_block hm4'.xb) (fun e => by have := (HM3.out.own.lt _ e.symm).1; omega)]; exact hm4'.xb
              have fx5 := free_of_block hx5 2
              have cx5 := cell_of_block' hx5 2
              have cb2 := cell_of_block' HM3.out.scan.block 2
              have fb2 := free_of_block HM3.out.scan.block 2
              have cx4 := cell_of_block' hm4.xb 2
              have hsz4 : (w3.setCell ⟨b, 2, none⟩ (.bool true)).heap.size = w3.heap.size := by simp [World.setCell]
              rw [hsz4] at hrun
              simp at cb2 cx4 cx5
              have HRUN := Lib.hid hrun
              clear hrun hown5 hgrow5 hx5 hm4 hsz4
              go_wp2_with (at_builtin; refine wpList_append_run rfl _ _ 104 rfl _ _ rfl rfl _ _ rfl HRUN.out ?_)
              go_roundg (2 * (rs.length - k2) + (if true then 0 else 1))
              case measure => simp; omega
              case rel => exact ⟨⟨k2, true, va', vc', sp ++ [(lo, hi2)], HM5.out, by omega, by simp; omega, .inr (by simp), fun _ => HRES.out, fun h => by (cases h), by simp⟩, trivial⟩
            | false =>
              rw [hbe] at HM3
              have HX2 := Lib.hid (HX1.out.2 hbe)
              have HL2 := Lib.hid (isSome_lt HQ3.out hbe)
              clear hbe
              by_cases hlo : hi2 < lo
              · have hloz : (hi2 : Int) < (lo : Int) := by omega
                have HRES := Lib.hid (go_none HR0'.out HT.out (by rw [HX2.out, if_pos hlo]))
                have hsp2 : sp.length + 1 ≤ 4294967281 := by have := HM3.out.scan.small; have := HM3.out.scan.le; omega
                have hm4 : ClassMem w b R cap rs false k2 true va vc sp (w3.setCell ⟨b, 2, none⟩ (.bool true)) := HM3.out.kept (HM3.out.scan.setBad true) (grown_setCell (grown_refl _ _) _)
                obtain ⟨v', w5, hrun, hown5, hgrow5, hnn⟩ := append_one (t := 104) Tryd.underlying104 hi hz0 hz1 hz2 rfl (by decide) (w3.setCell ⟨b, 2, none⟩ (.bool true)) (.slice va sp.length vc) sp.length (spanCells sp) hm4.own
                  [.int .i32 (lo : Int), .int .i32 (hi2 : Int)] rfl (by intro u hu; simp at hu; rcases hu with rfl | rfl <;> rfl) (by unfold maxLen; omega) (by omega) hm4.base
                obtain ⟨va', vc', hv'⟩ := own_form' hown5
                subst hv'
                have HM5 := Lib.hid (HM3.out.step true lo hi2 va' vc' hown5 hgrow5)
                have hx5 : w5.heap[w.heap.size + 1]? = some (.cells #[.bool false, .bool false, .slice va sp.length vc] 106) := by
                  have hm4' := hm4.kept (hm4.scan.grown ((Below.refl _ _).alloc (Nat.le_refl _) (.cells [Value.int .i32 (lo : Int), .int .i32 (hi2 : Int)].toArray 109))) (World.grownBy_alloc _ _ _)
                  rw [hgrow5.block _ (lt_of_block hm4'.xb) (fun e => by have := (HM3.out.own.lt _ e.symm).1; omega)]; exact hm4'.xb
                have fx5 := free_of_block hx5 2
                have cx5 := cell_of_block' hx5 2
                have cb2 := cell_of_block' HM3.out.scan.block 2
                have fb2 := free_of_block HM3.out.scan.block 2
                have cx4 := cell_of_block' hm4.xb 2
                have hsz4 : (w3.setCell ⟨b, 2, none⟩ (.bool true)).heap.size = w3.heap.size := by simp [World.setCell]
                rw [hsz4] at hrun
                simp at cb2 cx4 cx5
                have HRUN := Lib.hid hrun
                clear hrun hown5 hgrow5 hx5 hm4 hsz4
                go_wp2_with (at_builtin; refine wpList_append_run rfl _ _ 104 rfl _ _ rfl rfl _ _ rfl HRUN.out ?_)
                go_roundg (2 * (rs.length - k2) + (if true then 0 else 1))
                case measure => simp; omega
                case rel => exact ⟨⟨k2, true, va', vc', sp ++ [(lo, hi2)], HM5.out, by omega, by simp; omega, .inr (by simp), fun _ => HRES.out, fun h => by (cases h), by simp⟩, trivial⟩
              · have hloz : ¬ (hi2 : Int) < (lo : Int) := by omega
                have HSOME := Lib.hid (go_some HR0'.out HT.out (s := (lo, hi2)) (u := rs.drop k2) (by rw [HX2.out, if_neg hlo]))
                have hsp2 : sp.length + 1 ≤ 4294967281 := by have := HM3.out.scan.small; have := HM3.out.scan.le; omega
                have hm4 : ClassMem w b R cap rs false k2 false va vc sp (w3.setCell ⟨b, 2, none⟩ (.bool false)) := HM3.out.kept (HM3.out.scan.setBad false) (grown_setCell (grown_refl _ _) _)
                obtain ⟨v', w5, hrun, hown5, hgrow5, hnn⟩ := append_one (t := 104) Tryd.underlying104 hi hz0 hz1 hz2 rfl (by decide) (w3.setCell ⟨b, 2, none⟩ (.bool false)) (.slice va sp.length vc) sp.length (spanCells sp) hm4.own
                  [.int .i32 (lo : Int), .int .i32 (hi2 : Int)] rfl (by intro u hu; simp at hu; rcases hu with rfl | rfl <;> rfl) (by unfold maxLen; omega) (by omega) hm4.base
                obtain ⟨va', vc', hv'⟩ := own_form' hown5
                subst hv'
                have HM5 := Lib.hid (HM3.out.step false lo hi2 va' vc' hown5 hgrow5)
                have hx5 : w5.heap[w.heap.size + 1]? = some (.cells #[.bool false, .bool false, .slice va sp.length vc] 106) := by
                  have hm4' := hm4.kept (hm4.scan.grown ((Below.refl _ _).alloc (Nat.le_refl _) (.cells [Value.int .i32 (lo : Int), .int .i32 (hi2 : Int)].toArray 109))) (World.grownBy_alloc _ _ _)
                  rw [hgrow5.block _ (lt_of_block hm4'.xb) (fun e => by have := (HM3.out.own.lt _ e.symm).1; omega)]; exact hm4'.xb
                have fx5 := free_of_block hx5 2
                have cx5 := cell_of_block' hx5 2
                have cb2 := cell_of_block' HM3.out.scan.block 2
                have fb2 := free_of_block HM3.out.scan.block 2
                have cx4 := cell_of_block' hm4.xb 2
                have hsz4 : (w3.setCell ⟨b, 2, none⟩ (.bool false)).heap.size = w3.heap.size := by simp [World.setCell]
                rw [hsz4] at hrun
                simp at cb2 cx4 cx5
                have HRUN := Lib.hid hrun
                clear hrun hown5 hgrow5 hx5 hm4 hsz4
                go_wp2_with (at_builtin; refine wpList_append_run rfl _ _ 104 rfl _ _ rfl rfl _ _ rfl HRUN.out ?_)
                go_roundg (2 * (rs.length - k2) + (if false then 0 else 1))
                case measure => have := HL1.out; have := HL2.out; simp; omega
                case rel => exact ⟨⟨k2, false, va', vc', sp ++ [(lo, hi2)], HM5.out, by omega, by have := HL1.out; have := HL2.out; simp; omega, .inr (by simp), fun h => by (cases h), fun _ => HSOME.out, by simp⟩, trivial⟩
        | false =>
          rw [hB2] at hP2
          have HP2 := Lib.hid hP2
          have HB2 := Lib.hid (beq_eq_false_iff_ne.1 hB2)
          clear hP2 hB2
          go_wp2_with fail
          refine HP2.out.mono ?_
          rintro e w3 ⟨rfl, q2, hw2⟩
          have HM3 := Lib.hid (show ClassMem w b R cap rs false k1 _ va vc sp w3 by rw [hw2]; exact HM1.out.kept (HS1.out.grown (below_drewN (Below.refl _ _) q2)) (grown_drewN (grown_refl _ _) q2))
          clear hw2
          rw [Bool.false_or] at HM3
          cases hbd : (Pn.elementP (rs.drop k')).isNone with
          | true =>
            rw [hbd] at HM3
            have HRES := Lib.hid (go_none HR0'.out HT.out (HSR.out.1 hbd))
            clear hbd
            have hsp2 : sp.length + 1 ≤ 4294967281 := by have := HM3.out.scan.small; have := HM3.out.scan.le; omega
            have hm4 : ClassMem w b R cap rs false k1 true va vc sp (w3.setCell ⟨b, 2, none⟩ (.bool true)) := HM3.out.kept (HM3.out.scan.setBad true) (grown_setCell (grown_refl _ _) _)
            obtain ⟨v', w5, hrun, hown5, hgrow5, hnn⟩ := append_one (t := 104) Tryd.underlying104 hi hz0 hz1 hz2 rfl (by decide) (w3.setCell ⟨b, 2, none⟩ (.bool true)) (.slice va sp.length vc) sp.length (spanCells sp) hm4.own
              [.int .i32 (lo : Int), .int .i32 (lo : Int)] rfl (by intro u hu; simp at hu; rcases hu with rfl | rfl <;> rfl) (by unfold maxLen; omega) (by omega) hm4.base
            obtain ⟨va', vc', hv'⟩ := own_form' hown5
            subst hv'
            have HM5 := Lib.hid (HM3.out.step true lo lo va' vc' hown5 hgrow5)
            have hx5 : w5.heap[w.heap.size + 1]? = some (.cells #[.bool false, .bool false, .slice va sp.length vc] 106) := by
              have hm4' := hm4.kept (hm4.scan.grown ((Below.refl _ _).alloc (Nat.le_refl _) (.cells [Value.int .i32 (lo : Int), .int .i32 (lo : Int)].toArray 109))) (World.grownBy_alloc _ _ _)
              rw [hgrow5.block _ (lt_of_block hm4'.xb) (fun e => by have := (HM3.out.own.lt _ e.symm).1; omega)]; exact hm4'.xb
            have fx5 := free_of_block hx5 2
            have cx5 := cell_of_block' hx5 2
            have cb2 := cell_of_block' HM3.out.scan.block 2
            have fb2 := free_of_block HM3.out.scan.block 2
            have cx4 := cell_of_block' hm4.xb 2
            have hsz4 : (w3.setCell ⟨b, 2, none⟩ (.bool true)).heap.size = w3.heap.size := by simp [World.setCell]
            rw [hsz4] at hrun
            simp at cb2 cx4 cx5
            have HRUN := Lib.hid hrun
            clear hrun hown5 hgrow5 hx5 hm4 hsz4
            go_wp2_with (at_builtin; refine wpList_append_run rfl _ _ 104 rfl _ _ rfl rfl _ _ rfl HRUN.out ?_)
            go_roundg (2 * (rs.length - k1) + (if true then 0 else 1))
            case measure => simp; omega
            case rel => exact ⟨⟨k1, true, va', vc', sp ++ [(lo, lo)], HM5.out, by omega, by simp; omega, .inr (by simp), fun _ => HRES.out, fun h => by (cases h), by simp⟩, trivial⟩
          | false =>
            rw [hbd] at HM3
            have HL1 := Lib.hid (isSome_lt HQ1.out hbd)
            have HSOME := Lib.hid (go_some HR0'.out HT.out (HSR.out.2.1 HB2.out hbd))
            clear hbd
            have hloz : ¬ (lo : Int) < (lo : Int) := by omega
            have hsp2 : sp.length + 1 ≤ 4294967281 := by have := HM3.out.scan.small; have := HM3.out.scan.le; omega
            have hm4 : ClassMem w b R cap rs false k1 false va vc sp (w3.setCell ⟨b, 2, none⟩ (.bool false)) := HM3.out.kept (HM3.out.scan.setBad false) (grown_setCell (grown_refl _ _) _)
            obtain ⟨v', w5, hrun, hown5, hgrow5, hnn⟩ := append_one (t := 104) Tryd.underlying104 hi hz0 hz1 hz2 rfl (by decide) (w3.setCell ⟨b, 2, none⟩ (.bool false)) (.slice va sp.length vc) sp.length (spanCells sp) hm4.own
              [.int .i32 (lo : Int), .int .i32 (lo : Int)] rfl (by intro u hu; simp at hu; rcases hu with rfl | rfl <;> rfl) (by unfold maxLen; omega) (by omega) hm4.base
            obtain ⟨va', vc', hv'⟩ := own_form' hown5
            subst hv'
            have HM5 := Lib.hid (HM3.out.step false lo lo va' vc' hown5 hgrow5)
            have hx5 : w5.heap[w.heap.size + 1]? = some (.cells #[.bool false, .bool false, .slice va sp.length vc] 106) := by
              have hm4' := hm4.kept (hm4.scan.grown ((Below.refl _ _).alloc (Nat.le_refl _) (.cells [Value.int .i32 (lo : Int), .int .i32 (lo : Int)].toArray 109))) (World.grownBy_alloc _ _ _)
              rw [hgrow5.block _ (lt_of_block hm4'.xb) (fun e => by have := (HM3.out.own.lt _ e.symm).1; omega)]; exact hm4'.xb
            have fx5 := free_of_block hx5 2
            have cx5 := cell_of_block' hx5 2
            have cb2 := cell_of_block' HM3.out.scan.block 2
            have fb2 := free_of_block HM3.out.scan.block 2
            have cx4 := cell_of_block' hm4.xb 2
            have hsz4 : (w3.setCell ⟨b, 2, none⟩ (.bool false)).heap.size = w3.heap.size := by simp [World.setCell]
            rw [hsz4] at hrun
            simp at cb2 cx4 cx5
            have HRUN := Lib.hid hrun
            clear hrun hown5 hgrow5 hx5 hm4 hsz4
            go_wp2_with (at_builtin; refine wpList_append_run rfl _ _ 104 rfl _ _ rfl rfl _ _ rfl HRUN.out ?_)
            go_roundg (2 * (rs.length - k1) + (if false then 0 else 1))
            case measure => have := HL1.out; simp; omega
            case rel => exact ⟨⟨k1, false, va', vc', sp ++ [(lo, lo)], HM5.out, by omega, by have := HL1.out; simp; omega, .inr (by simp), fun h => by (cases h), fun _ => HSOME.out, by simp⟩, trivial⟩
      · have hl0 : ((sp.length : Int) == 0) = false := by rw [beq_eq_false_iff_ne]; have := List.length_pos_iff.2 hs0; omega
        have hP1 := peek_any b R cap rs k' false 93 wr HM.out.scan
        cases hB : ((rs.drop k').head? == some 93) with
        | true =>
          rw [hB] at hP1
          have HP1 := Lib.hid hP1
          have HB93 := Lib.hid hB
          have HS0 := Lib.hid hs0
          clear hP1 hB hs0
          go_wp2_with (go_at_call 91; refine HP1.out.mono ?_; rintro e wq ⟨rfl, q1, hwq⟩; have HMx := Lib.hid (show ClassMem w b R cap rs false k' false va vc sp wq by rw [hwq]; exact HM.out.kept (HM.out.scan.grown (below_drewN (Below.refl _ _) q1)) (grown_drewN (grown_refl _ _) q1)); clear hwq)
          refine (next_any b R cap rs k' false wq HMx.out.scan).mono ?_
          rintro e w1 ⟨r, k2, rfl, hS1, hk2s, hk2, hg1⟩
          have HM1 := Lib.hid (HMx.out.kept hS1 hg1)
          have HK2 := Lib.hid hk2s
          have y0 := cell_of_block' HM1.out.xb 0
          have y1 := cell_of_block' HM1.out.xb 1
          have y2 := cell_of_block' HM1.out.xb 2
          have z0 := free_of_block HM1.out.rb 0
          have z1 := free_of_block HM1.out.rb 1
          have z2 := free_of_block HM1.out.rb 2
          have v0 := cell_of_block' HM1.out.rb 0
          have v1 := cell_of_block' HM1.out.rb 1
          have v2 := cell_of_block' HM1.out.rb 2
          simp at y0 y1 y2 v0 v1 v2
          have Z := Lib.hid HM1.out.rb
          clear hS1 hg1 hk2s
          go_wp2_with fail
          have E := block_set (block_set (block_set Z.out 0 (.bool false)) 1 (.bool false)) 2 (.slice va sp.length vc)
          simp at E
          have e0 := cell_of_block' E 0
          have e1 := cell_of_block' E 1
          have e2 := cell_of_block' E 2
          simp at e0 e1 e2
          refine bodyPost_ret (v := .agg #[.bool false, .bool false, .slice va sp.length vc]) (by simp [results, Tryd.results77, go_sem, e0, e1, e2]) rfl ?_
          have hgw := grown_setCell (i := 2) (grown_setCell (i := 1) (grown_setCell (i := 0) (grown_refl w1 (some w.heap.size)) (.bool false)) (.bool false)) (.slice va sp.length vc)
          refine class_end HM1.out hgw (by omega) ?_

          unfold Pn.classTop; rw [if_neg (by have := HC.out; rw [beq_eq_false_iff_ne] at this; exact this)]
          have hlt : k' < rs.length := by
            rcases Nat.lt_or_ge k' rs.length with h | h
            · exact h
            · have := HB93.out; rw [List.drop_eq_nil_of_le h] at this; cases this
          rw [go_done HR0'.out HS0.out (by have := HB93.out; rw [beq_iff_eq] at this; exact this), (HK2.out hlt).1]
          simp
          omega
        | false =>
          rw [hB] at hP1
          have HP1 := Lib.hid hP1
          have HT := Lib.hid (show sp = [] ∨ (rs.drop k').head? ≠ some 93 from .inr (beq_eq_false_iff_ne.1 hB))
          clear hP1 hB hs0
          go_wp2_with (go_at_call 91; refine HP1.out.mono ?_; rintro e wq ⟨rfl, q1, hwq⟩; have HMx := Lib.hid (show ClassMem w b R cap rs false k' false va vc sp wq by rw [hwq]; exact HM.out.kept (HM.out.scan.grown (below_drewN (Below.refl _ _) q1)) (grown_drewN (grown_refl _ _) q1)); clear hwq)
          refine (element_all b R cap rs k' false wq HMx.out.scan).mono ?_
          rintro e w1 ⟨lo, k1, rfl, hk1, hS1, hg1, hq1⟩
          have HM1 := Lib.hid (HMx.out.kept hS1 hg1)
          have HSR := Lib.hid (span_read rs k' k1 lo hq1)
          have HQ1 := Lib.hid hq1
          have HS1 := Lib.hid hS1
          clear hS1 hg1 hq1
          have hle1 := HS1.out.le
          have hsm1 := HS1.out.small
          have hP2 := peek_any b R cap rs k1 _ 45 w1 HS1.out
          cases hB2 : ((rs.drop k1).head? == some 45) with
          | true =>
            rw [hB2] at hP2
            have HP2 := Lib.hid hP2
            have HB2 := Lib.hid (beq_iff_eq.1 hB2)
            have hlt1 : k1 < rs.length := by
              rcases Nat.lt_or_ge k1 rs.length with h | h
              · exact h
              · rw [List.drop_eq_nil_of_le h] at hB2; cases hB2
            have b1 := cell_of_block' HS1.out.block 1
            have g1 := free_of_block HS1.out.block 1
            simp at b1
            clear hP2 hB2
            go_wp2_with fail
            refine HP2.out.mono ?_
            rintro e w2 ⟨rfl, q2, rfl⟩
            go_wp2_with fail
            have hS2 := HS1.out.setAt hlt1 q2
            have HM2 := Lib.hid (HM1.out.kept hS2 (grown_setCell (grown_drewN (grown_refl _ _) q2) _))
            refine (element_all b R cap rs (k1 + 1) _ _ hS2).mono ?_
            clear hS2
            rintro e w3 ⟨hi2, k2, rfl, hk2, hS3, hg3, hq3⟩
            have HM3 := Lib.hid (HM2.out.kept hS3 hg3)
            have HSR3 := Lib.hid fun h => HSR.out.2.2 HB2.out h k2 hi2 hq3
            have HQ3 := Lib.hid hq3
            clear hS3 hg3 hq3
            rw [Bool.false_or] at HM3
            cases hbd : (Pn.elementP (rs.drop k')).isNone with
            | true =>
              rw [hbd, Bool.true_or] at HM3
              have HRES := Lib.hid (go_none HR0'.out HT.out (HSR.out.1 hbd))
              clear hbd
              have hsp2 : sp.length + 1 ≤ 4294967281 := by have := HM3.out.scan.small; have := HM3.out.scan.le; omega
              have hm4 : ClassMem w b R cap rs false k2 true va vc sp (w3.setCell ⟨b, 2, none⟩ (.bool true)) := HM3.out.kept (HM3.out.scan.setBad true) (grown_setCell (grown_refl _ _) _)
              obtain ⟨v', w5, hrun, hown5, hgrow5, hnn⟩ := append_one (t := 104) Tryd.underlying104 hi hz0 hz1 hz2 rfl (by decide) (w3.setCell ⟨b, 2, none⟩ (.bool true)) (.slice va sp.length vc) sp.length (spanCells sp) hm4.own
                [.int .i32 (lo : Int), .int .i32 (hi2 : Int)] rfl (by intro u hu; simp at hu; rcases hu with rfl | rfl <;> rfl) (by unfold maxLen; omega) (by omega) hm4.base
              obtain ⟨va', vc', hv'⟩ := own_form' hown5
              subst hv'
              have HM5 := Lib.hid (HM3.out.step true lo hi2 va' vc' hown5 hgrow5)
              have hx5 : w5.heap[w.heap.size + 1]? = some (.cells #[.bool false, .bool false, .slice va sp.length vc] 106) := by
                have hm4' := hm4.kept (hm4.scan.grown ((Below.refl _ _).alloc (Nat.le_refl _) (.cells [Value.int .i32 (lo : Int), .int .i32 (hi2 : Int)].toArray 109))) (World.grownBy_alloc _ _ _)
                rw [hgrow5.block _ (lt_of_block hm4'.xb) (fun e => by have := (HM3.out.own.lt _ e.symm).1; omega)]; exact hm4'.xb
              have fx5 := free_of_block hx5 2
              have cx5 := cell_of_block' hx5 2
              have cb2 := cell_of_block' HM3.out.scan.block 2
              have fb2 := free_of_block HM3.out.scan.block 2
              have cx4 := cell_of_block' hm4.xb 2
              have hsz4 : (w3.setCell ⟨b, 2, none⟩ (.bool true)).heap.size = w3.heap.size := by simp [World.setCell]
              rw [hsz4] at hrun
              simp at cb2 cx4 cx5
              have HRUN := Lib.hid hrun
              clear hrun hown5 hgrow5 hx5 hm4 hsz4
              go_wp2_with (at_builtin; refine wpList_append_run rfl _ _ 104 rfl _ _ rfl rfl _ _ rfl HRUN.out ?_)
              go_roundg (2 * (rs.length - k2) + (if true then 0 else 1))
              case measure => simp; omega
              case rel => exact ⟨⟨k2, true, va', vc', sp ++ [(lo, hi2)], HM5.out, by omega, by simp; omega, .inr (by simp), fun _ => HRES.out, fun h => by (cases h), by simp⟩, trivial⟩
            | false =>
              have HX1 := Lib.hid (HSR3.out hbd)
              rw [hbd, Bool.false_or] at HM3
              have HL1 := Lib.hid (isSome_lt HQ1.out hbd)
              clear hbd
              cases hbe : (Pn.elementP (rs.drop (k1 + 1))).isNone with
              | true =>
                rw [hbe] at HM3
                have HRES := Lib.hid (go_none HR0'.out HT.out (HX1.out.1 hbe))
                clear hbe
                have hsp2 : sp.length + 1 ≤ 4294967281 := by have := HM3.out.scan.small; have := HM3.out.scan.le; omega
                have hm4 : ClassMem w b R cap rs false k2 true va vc sp (w3.setCell ⟨b, 2, none⟩ (.bool true)) := HM3.out.kept (HM3.out.scan.setBad true) (grown_setCell (grown_refl _ _) _)
                obtain ⟨v', w5, hrun, hown5, hgrow5, hnn⟩ := append_one (t := 104) Tryd.underlying104 hi hz0 hz1 hz2 rfl (by decide) (w3.setCell ⟨b, 2, none⟩ (.bool true)) (.slice va sp.length vc) sp.length (spanCells sp) hm4.own
                  [.int .i32 (lo : Int), .int .i32 (hi2 : Int)] rfl (by intro u hu; simp at hu; rcases hu with rfl | rfl <;> rfl) (by unfold maxLen; omega) (by omega) hm4.base
                obtain ⟨va', vc', hv'⟩ := own_form' hown5
                subst hv'
                have HM5 := Lib.hid (HM3.out.step true lo hi2 va' vc' hown5 hgrow5)
                have hx5 : w5.heap[w.heap.size + 1]? = some (.cells #[.bool false, .bool false, .slice va sp.length vc] 106) := by
                  have hm4' := hm4.kept (hm4.scan.grown ((Below.refl _ _).alloc (Nat.le_refl _) (.cells [Value.int .i32 (lo : Int), .int .i32 (hi2 : Int)].toArray 109))) (World.grownBy_alloc _ _ _)
                  rw [hgrow5.block _ (lt_of_block hm4'.xb) (fun e => by have := (HM3.out.own.lt _ e.symm).1; omega)]; exact hm4'.xb
                have fx5 := free_of_block hx5 2
                have cx5 := cell_of_block' hx5 2
                have cb2 := cell_of_block' HM3.out.scan.block 2
                have fb2 := free_of_block HM3.out.scan.block 2
                have cx4 := cell_of_block' hm4.xb 2
                have hsz4 : (w3.setCell ⟨b, 2, none⟩ (.bool true)).heap.size = w3.heap.size := by simp [World.setCell]
                rw [hsz4] at hrun
                simp at cb2 cx4 cx5
                have HRUN := Lib.hid hrun
                clear hrun hown5 hgrow5 hx5 hm4 hsz4
                go_wp2_with (at_builtin; refine wpList_append_run rfl _ _ 104 rfl _ _ rfl rfl _ _ rfl HRUN.out ?_)
                go_roundg (2 * (rs.length - k2) + (if true then 0 else 1))
                case measure => simp; omega
                case rel => exact ⟨⟨k2, true, va', vc', sp ++ [(lo, hi2)], HM5.out, by omega, by simp; omega, .inr (by simp), fun _ => HRES.out, fun h => by (cases h), by simp⟩, trivial⟩
              | false =>
                rw [hbe] at HM3
                have HX2 := Lib.hid (HX1.out.2 hbe)
                have HL2 := Lib.hid (isSome_lt HQ3.out hbe)
                clear hbe
                by_cases hlo : hi2 < lo
                · have hloz : (hi2 : Int) < (lo : Int) := by omega
                  have HRES := Lib.hid (go_none HR0'.out HT.out (by rw [HX2.out, if_pos hlo]))
                  have hsp2 : sp.length + 1 ≤ 4294967281 := by have := HM3.out.scan.small; have := HM3.out.scan.le; omega
                  have hm4 : ClassMem w b R cap rs false k2 true va vc sp (w3.setCell ⟨b, 2, none⟩ (.bool true)) := HM3.out.kept (HM3.out.scan.setBad true) (grown_setCell (grown_refl _ _) _)
                  obtain ⟨v', w5, hrun, hown5, hgrow5, hnn⟩ := append_one (t := 104) Tryd.underlying104 hi hz0 hz1 hz2 rfl (by decide) (w3.setCell ⟨b, 2, none⟩ (.bool true)) (.slice va sp.length vc) sp.length (spanCells sp) hm4.own
                    [.int .i32 (lo : Int), .int .i32 (hi2 : Int)] rfl (by intro u hu; simp at hu; rcases hu with rfl | rfl <;> rfl) (by unfold maxLen; omega) (by omega) hm4.base
                  obtain ⟨va', vc', hv'⟩ := own_form' hown5
                  subst hv'
                  have HM5 := Lib.hid (HM3.out.step true lo hi2 va' vc' hown5 hgrow5)
                  have hx5 : w5.heap[w.heap.size + 1]? = some (.cells #[.bool false, .bool false, .slice va sp.length vc] 106) := by
                    have hm4' := hm4.kept (hm4.scan.grown ((Below.refl _ _).alloc (Nat.le_refl _) (.cells [Value.int .i32 (lo : Int), .int .i32 (hi2 : Int)].toArray 109))) (World.grownBy_alloc _ _ _)
                    rw [hgrow5.block _ (lt_of_block hm4'.xb) (fun e => by have := (HM3.out.own.lt _ e.symm).1; omega)]; exact hm4'.xb
                  have fx5 := free_of_block hx5 2
                  have cx5 := cell_of_block' hx5 2
                  have cb2 := cell_of_block' HM3.out.scan.block 2
                  have fb2 := free_of_block HM3.out.scan.block 2
                  have cx4 := cell_of_block' hm4.xb 2
                  have hsz4 : (w3.setCell ⟨b, 2, none⟩ (.bool true)).heap.size = w3.heap.size := by simp [World.setCell]
                  rw [hsz4] at hrun
                  simp at cb2 cx4 cx5
                  have HRUN := Lib.hid hrun
                  clear hrun hown5 hgrow5 hx5 hm4 hsz4
                  go_wp2_with (at_builtin; refine wpList_append_run rfl _ _ 104 rfl _ _ rfl rfl _ _ rfl HRUN.out ?_)
                  go_roundg (2 * (rs.length - k2) + (if true then 0 else 1))
                  case measure => simp; omega
                  case rel => exact ⟨⟨k2, true, va', vc', sp ++ [(lo, hi2)], HM5.out, by omega, by simp; omega, .inr (by simp), fun _ => HRES.out, fun h => by (cases h), by simp⟩, trivial⟩
                · have hloz : ¬ (hi2 : Int) < (lo : Int) := by omega
                  have HSOME := Lib.hid (go_some HR0'.out HT.out (s := (lo, hi2)) (u := rs.drop k2) (by rw [HX2.out, if_neg hlo]))
                  have hsp2 : sp.length + 1 ≤ 4294967281 := by have := HM3.out.scan.small; have := HM3.out.scan.le; omega
                  have hm4 : ClassMem w b R cap rs false k2 false va vc sp (w3.setCell ⟨b, 2, none⟩ (.bool false)) := HM3.out.kept (HM3.out.scan.setBad false) (grown_setCell (grown_refl _ _) _)
                  obtain ⟨v', w5, hrun, hown5, hgrow5, hnn⟩ := append_one (t := 104) Tryd.underlying104 hi hz0 hz1 hz2 rfl (by decide) (w3.setCell ⟨b, 2, none⟩ (.bool false)) (.slice va sp.length vc) sp.length (spanCells sp) hm4.own
                    [.int .i32 (lo : Int), .int .i32 (hi2 : Int)] rfl (by intro u hu; simp at hu; rcases hu with rfl | rfl <;> rfl) (by unfold maxLen; omega) (by omega) hm4.base
                  obtain ⟨va', vc', hv'⟩ := own_form' hown5
                  subst hv'
                  have HM5 := Lib.hid (HM3.out.step false lo hi2 va' vc' hown5 hgrow5)
                  have hx5 : w5.heap[w.heap.size + 1]? = some (.cells #[.bool false, .bool false, .slice va sp.length vc] 106) := by
                    have hm4' := hm4.kept (hm4.scan.grown ((Below.refl _ _).alloc (Nat.le_refl _) (.cells [Value.int .i32 (lo : Int), .int .i32 (hi2 : Int)].toArray 109))) (World.grownBy_alloc _ _ _)
                    rw [hgrow5.block _ (lt_of_block hm4'.xb) (fun e => by have := (HM3.out.own.lt _ e.symm).1; omega)]; exact hm4'.xb
                  have fx5 := free_of_block hx5 2
                  have cx5 := cell_of_block' hx5 2
                  have cb2 := cell_of_block' HM3.out.scan.block 2
                  have fb2 := free_of_block HM3.out.scan.block 2
                  have cx4 := cell_of_block' hm4.xb 2
                  have hsz4 : (w3.setCell ⟨b, 2, none⟩ (.bool false)).heap.size = w3.heap.size := by simp [World.setCell]
                  rw [hsz4] at hrun
                  simp at cb2 cx4 cx5
                  have HRUN := Lib.hid hrun
                  clear hrun hown5 hgrow5 hx5 hm4 hsz4
                  go_wp2_with (at_builtin; refine wpList_append_run rfl _ _ 104 rfl _ _ rfl rfl _ _ rfl HRUN.out ?_)
                  go_roundg (2 * (rs.length - k2) + (if false then 0 else 1))
                  case measure => have := HL1.out; have := HL2.out; simp; omega
                  case rel => exact ⟨⟨k2, false, va', vc', sp ++ [(lo, hi2)], HM5.out, by omega, by have := HL1.out; have := HL2.out; simp; omega, .inr (by simp), fun h => by (cases h), fun _ => HSOME.out, by simp⟩, trivial⟩
          | false =>
            rw [hB2] at hP2
            have HP2 := Lib.hid hP2
            have HB2 := Lib.hid (beq_eq_false_iff_ne.1 hB2)
            clear hP2 hB2
            go_wp2_with fail
            refine HP2.out.mono ?_
            rintro e w3 ⟨rfl, q2, hw2⟩
            have HM3 := Lib.hid (show ClassMem w b R cap rs false k1 _ va vc sp w3 by rw [hw2]; exact HM1.out.kept (HS1.out.grown (below_drewN (Below.refl _ _) q2)) (grown_drewN (grown_refl _ _) q2))
            clear hw2
            rw [Bool.false_or] at HM3
            cases hbd : (Pn.elementP (rs.drop k')).isNone with
            | true =>
              rw [hbd] at HM3
              have HRES := Lib.hid (go_none HR0'.out HT.out (HSR.out.1 hbd))
              clear hbd
              have hsp2 : sp.length + 1 ≤ 4294967281 := by have := HM3.out.scan.small; have := HM3.out.scan.le; omega
              have hm4 : ClassMem w b R cap rs false k1 true va vc sp (w3.setCell ⟨b, 2, none⟩ (.bool true)) := HM3.out.kept (HM3.out.scan.setBad true) (grown_setCell (grown_refl _ _) _)
              obtain ⟨v', w5, hrun, hown5, hgrow5, hnn⟩ := append_one (t := 104) Tryd.underlying104 hi hz0 hz1 hz2 rfl (by decide) (w3.setCell ⟨b, 2, none⟩ (.bool true)) (.slice va sp.length vc) sp.length (spanCells sp) hm4.own
                [.int .i32 (lo : Int), .int .i32 (lo : Int)] rfl (by intro u hu; simp at hu; rcases hu with rfl | rfl <;> rfl) (by unfold maxLen; omega) (by omega) hm4.base
              obtain ⟨va', vc', hv'⟩ := own_form' hown5
              subst hv'
              have HM5 := Lib.hid (HM3.out.step true lo lo va' vc' hown5 hgrow5)
              have hx5 : w5.heap[w.heap.size + 1]? = some (.cells #[.bool false, .bool false, .slice va sp.length vc] 106) := by
                have hm4' := hm4.kept (hm4.scan.grown ((Below.refl _ _).alloc (Nat.le_refl _) (.cells [Value.int .i32 (lo : Int), .int .i32 (lo : Int)].toArray 109))) (World.grownBy_alloc _ _ _)
                rw [hgrow5.block _ (lt_of_block hm4'.xb) (fun e => by have := (HM3.out.own.lt _ e.symm).1; omega)]; exact hm4'.xb
              have fx5 := free_of_block hx5 2
              have cx5 := cell_of_block' hx5 2
              have cb2 := cell_of_block' HM3.out.scan.block 2
              have fb2 := free_of_block HM3.out.scan.block 2
              have cx4 := cell_of_block' hm4.xb 2
              have hsz4 : (w3.setCell ⟨b, 2, none⟩ (.bool true)).heap.size = w3.heap.size := by simp [World.setCell]
              rw [hsz4] at hrun
              simp at cb2 cx4 cx5
              have HRUN := Lib.hid hrun
              clear hrun hown5 hgrow5 hx5 hm4 hsz4
              go_wp2_with (at_builtin; refine wpList_append_run rfl _ _ 104 rfl _ _ rfl rfl _ _ rfl HRUN.out ?_)
              go_roundg (2 * (rs.length - k1) + (if true then 0 else 1))
              case measure => simp; omega
              case rel => exact ⟨⟨k1, true, va', vc', sp ++ [(lo, lo)], HM5.out, by omega, by simp; omega, .inr (by simp), fun _ => HRES.out, fun h => by (cases h), by simp⟩, trivial⟩
            | false =>
              rw [hbd] at HM3
              have HL1 := Lib.hid (isSome_lt HQ1.out hbd)
              have HSOME := Lib.hid (go_some HR0'.out HT.out (HSR.out.2.1 HB2.out hbd))
              clear hbd
              have hloz : ¬ (lo : Int) < (lo : Int) := by omega
              have hsp2 : sp.length + 1 ≤ 4294967281 := by have := HM3.out.scan.small; have := HM3.out.scan.le; omega
              have hm4 : ClassMem w b R cap rs false k1 false va vc sp (w3.setCell ⟨b, 2, none⟩ (.bool false)) := HM3.out.kept (HM3.out.scan.setBad false) (grown_setCell (grown_refl _ _) _)
              obtain ⟨v', w5, hrun, hown5, hgrow5, hnn⟩ := append_one (t := 104) Tryd.underlying104 hi hz0 hz1 hz2 rfl (by decide) (w3.setCell ⟨b, 2, none⟩ (.bool false)) (.slice va sp.length vc) sp.length (spanCells sp) hm4.own
                [.int .i32 (lo : Int), .int .i32 (lo : Int)] rfl (by intro u hu; simp at hu; rcases hu with rfl | rfl <;> rfl) (by unfold maxLen; omega) (by omega) hm4.base
              obtain ⟨va', vc', hv'⟩ := own_form' hown5
              subst hv'
              have HM5 := Lib.hid (HM3.out.step false lo lo va' vc' hown5 hgrow5)
              have hx5 : w5.heap[w.heap.size + 1]? = some (.cells #[.bool false, .bool false, .slice va sp.length vc] 106) := by
                have hm4' := hm4.kept (hm4.scan.grown ((Below.refl _ _).alloc (Nat.le_refl _) (.cells [Value.int .i32 (lo : Int), .int .i32 (lo : Int)].toArray 109))) (World.grownBy_alloc _ _ _)
                rw [hgrow5.block _ (lt_of_block hm4'.xb) (fun e => by have := (HM3.out.own.lt _ e.symm).1; omega)]; exact hm4'.xb
              have fx5 := free_of_block hx5 2
              have cx5 := cell_of_block' hx5 2
              have cb2 := cell_of_block' HM3.out.scan.block 2
              have fb2 := free_of_block HM3.out.scan.block 2
              have cx4 := cell_of_block' hm4.xb 2
              have hsz4 : (w3.setCell ⟨b, 2, none⟩ (.bool false)).heap.size = w3.heap.size := by simp [World.setCell]
              rw [hsz4] at hrun
              simp at cb2 cx4 cx5
              have HRUN := Lib.hid hrun
              clear hrun hown5 hgrow5 hx5 hm4 hsz4
              go_wp2_with (at_builtin; refine wpList_append_run rfl _ _ 104 rfl _ _ rfl rfl _ _ rfl HRUN.out ?_)
              go_roundg (2 * (rs.length - k1) + (if false then 0 else 1))
              case measure => have := HL1.out; simp; omega
              case rel => exact ⟨⟨k1, false, va', vc', sp ++ [(lo, lo)], HM5.out, by omega, by have := HL1.out; simp; omega, .inr (by simp), fun h => by (cases h), fun _ => HSOME.out, by simp⟩, trivial⟩

set_option maxHeartbeats 4000000 in
set_option maxRecDepth 100000 in
theorem class_not (b R cap : Nat) (rs : List Nat) (k : Nat) (w : World) (h : Scan w b R cap rs k false) (hRlt : R < w.heap.size) (hc : ((rs.drop k).head? == some 94) = true) :
    Calls Tryd.prog 77 #[.pointer (some ⟨b, 0, none⟩)] w (ClassOk b R cap rs k w) := by
  obtain ⟨i0, hi, hz0, hz1, hz2⟩ := info_parts span_info
  have hP := peek_any b R cap rs k false 94
  have hlb := lt_of_block h.block
  have c1 := cell_of_block' h.block 1
  have f1 := free_of_block h.block 1
  simp at c1
  have hsm := h.small
  have hle := h.le
  have H := Lib.hid h
  clear h
  have hbb : Below w.heap.size w ((w.alloc (.cells #[.bool false, .bool false, .slice none 0 0] 106)).alloc (.cells #[.bool false, .bool false, .slice none 0 0] 106)) := ((Below.refl _ w).alloc (Nat.le_refl _) _).alloc (by simp) _
  rw [hc] at hP
  have hP := Lib.hid (hP _ (H.out.grown hbb))
  have HB := Lib.hid hbb
  have HC := Lib.hid hc
  clear hbb hc
  have H0 := Lib.hid (show ClassMem w b R cap rs false k false none 0 [] ((w.alloc (.cells #[.bool false, .bool false, .slice none 0 0] 106)).alloc (.cells #[.bool false, .bool false, .slice none 0 0] 106)) from
    ⟨H.out.grown HB.out, (two_new _ _).2, (two_new _ _).1, World.ownsRow_nil _ _ _ _, grown_below HB.out _, by simp, hlb, hRlt⟩)

  have hlt0 : k < rs.length := by
    rcases Nat.lt_or_ge k rs.length with h | h
    · exact h
    · have := HC.out; rw [List.drop_eq_nil_of_le h] at this; cases this
  go_enter Tryd.func77, Tryd.ntmps77
  go_wp2_with (go_at_call 91; refine hP.out.mono ?_; rintro e w' ⟨rfl, q, rfl⟩)
  go_loopg [4, 5] (2 * (rs.length - (k + 1)) + 1) (fun gg _ _ wr => ClassRel w b R cap rs true (Pn.classP [] (rs.drop (k + 1))) (k + 1) gg wr ∧ True)
  case atStart =>
    have hm1 := H0.out.kept (H0.out.scan.setAt hlt0 q) (grown_setCell (grown_drewN (grown_refl _ _) q) _)
    have hgs := grown_setCell (b := w.heap.size + 1) (i := 1) (grown_refl ((((w.alloc (.cells #[.bool false, .bool false, .slice none 0 0] 106)).alloc (.cells #[.bool false, .bool false, .slice none 0 0] 106)).drewN q).setCell ⟨b, 1, none⟩ (.int .i64 ((k : Int) + 1))) (some (w.heap.size + 1))) (.bool true)
    have hm2 : ClassMem w b R cap rs true (k + 1) false none 0 [] (((((w.alloc (.cells #[.bool false, .bool false, .slice none 0 0] 106)).alloc (.cells #[.bool false, .bool false, .slice none 0 0] 106)).drewN q).setCell ⟨b, 1, none⟩ (.int .i64 ((k : Int) + 1))).setCell ⟨w.heap.size + 1, 1, none⟩ (.bool true)) :=
      ⟨hm1.scan.kept hgs (fun e => by have := Option.some.inj e; omega) (fun e => by have := Option.some.inj e; omega), block_set hm1.xb 1 (.bool true), by rw [hgs.block _ (lt_of_block hm1.rb) (fun e => by have := Option.some.inj e; omega)]; exact hm1.rb,
        World.ownsRow_nil _ _ _ _, grown_new hm1.grown hgs (by omega), by have := hm1.base; simp [World.setCell], hlb, hRlt⟩
    exact ⟨⟨k + 1, false, none, 0, [], hm2, Nat.le_refl _, Nat.zero_le _, .inl rfl, fun h => by (cases h), fun _ => ⟨_, Nat.lt_succ_self _, rfl⟩, by simp⟩, trivial⟩
  case round =>
    obtain ⟨⟨k', bad, va, vc, sp, hm, hk0, hsp, hnil, hR1, hR0, hgg⟩, -⟩ := hrel
    have HM := Lib.hid hm
    have HR1 := Lib.hid hR1
    have HR0 := Lib.hid hR0
    have HN := Lib.hid hnil
    have d2 := cell_of_block' hm.scan.block 2
    have x2 := cell_of_block' hm.xb 2
    simp at d2 x2
    clear hm hR1 hR0 hnil
    cases bad with
    | true =>
      go_wp2_with fail
      refine (next_any b R cap rs k' true wr HM.out.scan).mono ?_
      rintro e w1 ⟨r, k2, rfl, hS1, hk2s, hk2, hg1⟩
      have HM1 := Lib.hid (HM.out.kept hS1 hg1)
      have HK2 := Lib.hid hk2s
      have y0 := cell_of_block' HM1.out.xb 0
      have y1 := cell_of_block' HM1.out.xb 1
      have y2 := cell_of_block' HM1.out.xb 2
      have z0 := free_of_block HM1.out.rb 0
      have z1 := free_of_block HM1.out.rb 1
      have z2 := free_of_block HM1.out.rb 2
      have v0 := cell_of_block' HM1.out.rb 0
      have v1 := cell_of_block' HM1.out.rb 1
      have v2 := cell_of_block' HM1.out.rb 2
      simp at y0 y1 y2 v0 v1 v2
      have Z := Lib.hid HM1.out.rb
      clear hS1 hg1 hk2s
      go_wp2_with fail
      have E := block_set (block_set (block_set Z.out 0 (.bool false)) 1 (.bool true)) 2 (.slice va sp.length vc)
      simp at E
      have e0 := cell_of_block' E 0
      have e1 := cell_of_block' E 1
      have e2 := cell_of_block' E 2
      simp at e0 e1 e2
      refine bodyPost_ret (v := .agg #[.bool false, .bool true, .slice va sp.length vc]) (by simp [results, Tryd.results77, go_sem, e0, e1, e2]) rfl ?_
      have hgw := grown_setCell (i := 2) (grown_setCell (i := 1) (grown_setCell (i := 0) (grown_refl w1 (some w.heap.size)) (.bool false)) (.bool true)) (.slice va sp.length vc)
      refine class_end HM1.out hgw (by omega) ?_

      unfold Pn.classTop; rw [if_pos (by have := HC.out; rw [beq_iff_eq] at this; exact this), List.tail_drop]
      have hres := HR1.out
      simp only [true_implies] at hres
      rw [hres]
      simp
    | false =>
      have HR0' := Lib.hid (HR0.out rfl)
      have hgg2 : 2 * (rs.length - k') + 1 ≤ gk := by simpa using hgg
      have hsp : sp.length ≤ k' := by simpa using hsp
      by_cases hs0 : sp = []
      · have hl0 : ((sp.length : Int) == 0) = true := by rw [hs0]; rfl
        have HT := Lib.hid (show sp = [] ∨ (rs.drop k').head? ≠ some 93 from .inl hs0)
        clear hs0
        have HMx := HM
        go_wp2_with fail
        refine (element_all b R cap rs k' false wr HMx.out.scan).mono ?_
        rintro e w1 ⟨lo, k1, rfl, hk1, hS1, hg1, hq1⟩
        have HM1 := Lib.hid (HMx.out.kept hS1 hg1)
        have HSR := Lib.hid (span_read rs k' k1 lo hq1)
        have HQ1 := Lib.hid hq1
        have HS1 := Lib.hid hS1
        clear hS1 hg1 hq1
        have hle1 := HS1.out.le
        have hsm1 := HS1.out.small
        have hP2 := peek_any b R cap rs k1 _ 45 w1 HS1.out
        cases hB2 : ((rs.drop k1).head? == some 45) with
        | true =>
          rw [hB2] at hP2
          have HP2 := Lib.hid hP2
          have HB2 := Lib.hid (beq_iff_eq.1 hB2)
          have hlt1 : k1 < rs.length := by
            rcases Nat.lt_or_ge k1 rs.length with h | h
            · exact h
            · rw [List.drop_eq_nil_of_le h] at hB2; cases hB2
          have b1 := cell_of_block' HS1.out.block 1
          have g1 := free_of_block HS1.out.block 1
          simp at b1
          clear hP2 hB2
          go_wp2_with fail
          refine HP2.out.mono ?_
          rintro e w2 ⟨rfl, q2, rfl⟩
          go_wp2_with fail
          have hS2 := HS1.out.setAt hlt1 q2
          have HM2 := Lib.hid (HM1.out.kept hS2 (grown_setCell (grown_drewN (grown_refl _ _) q2) _))
          refine (element_all b R cap rs (k1 + 1) _ _ hS2).mono ?_
          clear hS2
          rintro e w3 ⟨hi2, k2, rfl, hk2, hS3, hg3, hq3⟩
          have HM3 := Lib.hid (HM2.out.kept hS3 hg3)
          have HSR3 := Lib.hid fun h => HSR.out.2.2 HB2.out h k2 hi2 hq3
          have HQ3 := Lib.hid hq3
          clear hS3 hg3 hq3
          rw [Bool.false_or] at HM3
          cases hbd : (Pn.elementP (rs.drop k')).isNone with
          | true =>
            rw [hbd, Bool.true_or] at HM3
            have HRES := Lib.hid (go_none HR0'.out HT.out (HSR.out.1 hbd))
            clear hbd
            have hsp2 : sp.length + 1 ≤ 4294967281 := by have := HM3.out.scan.small; have := HM3.out.scan.le; omega
            have hm4 : ClassMem w b R cap rs true k2 true va vc sp (w3.setCell ⟨b, 2, none⟩ (.bool true)) := HM3.out.kept (HM3.out.scan.setBad true) (grown_setCell (grown_refl _ _) _)
            obtain ⟨v', w5, hrun, hown5, hgrow5, hnn⟩ := append_one (t := 104) Tryd.underlying104 hi hz0 hz1 hz2 rfl (by decide) (w3.setCell ⟨b, 2, none⟩ (.bool true)) (.slice va sp.length vc) sp.length (spanCells sp) hm4.own
              [.int .i32 (lo : Int), .int .i32 (hi2 : Int)] rfl (by intro u hu; simp at hu; rcases hu with rfl | rfl <;> rfl) (by unfold maxLen; omega) (by omega) hm4.base
            obtain ⟨va', vc', hv'⟩ := own_form' hown5
            subst hv'
            have HM5 := Lib.hid (HM3.out.step true lo hi2 va' vc' hown5 hgrow5)
            have hx5 : w5.heap[w.heap.size + 1]? = some (.cells #[.bool false, .bool true, .slice va sp.length vc] 106) := by
              have hm4' := hm4.kept (hm4.scan.grown ((Below.refl _ _).alloc (Nat.le_refl _) (.cells [Value.int .i32 (lo : Int), .int .i32 (hi2 : Int)].toArray 109))) (World.grownBy_alloc _ _ _)
              rw [hgrow5.block _ (lt_of_block hm4'.xb) (fun e => by have := (HM3.out.own.lt _ e.symm).1; omega)]; exact hm4'.xb
            have fx5 := free_of_block hx5 2
            have cx5 := cell_of_block' hx5 2
            have cb2 := cell_of_block' HM3.out.scan.block 2
            have fb2 := free_of_block HM3.out.scan.block 2
            have cx4 := cell_of_block' hm4.xb 2
            have hsz4 : (w3.setCell ⟨b, 2, none⟩ (.bool true)).heap.size = w3.heap.size := by simp [World.setCell]
            rw [hsz4] at hrun
            simp at cb2 cx4 cx5
            have HRUN := Lib.hid hrun
            clear hrun hown5 hgrow5 hx5 hm4 hsz4
            go_wp2_with (at_builtin; refine wpList_append_run rfl _ _ 104 rfl _ _ rfl rfl _ _ rfl HRUN.out ?_)
            go_roundg (2 * (rs.length - k2) + (if true then 0 else 1))
            case measure => simp; omega
            case rel => exact ⟨⟨k2, true, va', vc', sp ++ [(lo, hi2)], HM5.out, by omega, by simp; omega, .inr (by simp), fun _ => HRES.out, fun h => by (cases h), by simp⟩, trivial⟩
          | false =>
            have HX1 := Lib.hid (HSR3.out hbd)
            rw [hbd, Bool.false_or] at HM3
            have HL1 := Lib.hid (isSome_lt HQ1.out hbd)
            clear hbd
            cases hbe : (Pn.elementP (rs.drop (k1 + 1))).isNone with
            | true =>
              rw [hbe] at HM3
              have HRES := Lib.hid (go_none HR0'.out HT.out (HX1.out.1 hbe))
              clear hbe
              have hsp2 : sp.length + 1 ≤ 4294967281 := by have := HM3.out.scan.small; have := HM3.out.scan.le; omega
              have hm4 : ClassMem w b R cap rs true k2 true va vc sp (w3.setCell ⟨b, 2, none⟩ (.bool true)) := HM3.out.kept (HM3.out.scan.setBad true) (grown_setCell (grown_refl _ _) _)
              obtain ⟨v', w5, hrun, hown5, hgrow5, hnn⟩ := append_one (t := 104) Tryd.underlying104 hi hz0 hz1 hz2 rfl (by decide) (w3.setCell ⟨b, 2, none⟩ (.bool true)) (.slice va sp.length vc) sp.length (spanCells sp) hm4.own
                [.int .i32 (lo : Int), .int .i32 (hi2 : Int)] rfl (by intro u hu; simp at hu; rcases hu with rfl | rfl <;> rfl) (by unfold maxLen; omega) (by omega) hm4.base
              obtain ⟨va', vc', hv'⟩ := own_form' hown5
              subst hv'
              have HM5 := Lib.hid (HM3.out.step true lo hi2 va' vc' hown5 hgrow5)
              have hx5 : w5.heap[w.heap.size + 1]? = some (.cells #[.bool false, .bool true, .slice va sp.length vc] 106) := by
                have hm4' := hm4.kept (hm4.scan.grown ((Below.refl _ _).alloc (Nat.le_refl _) (.cells [Value.int .i32 (lo : Int), .int .i32 (hi2 : Int)].toArray 109))) (World.grownBy_alloc _ _ _)
                rw [hgrow5.block _ (lt_of_block hm4'.xb) (fun e => by have := (HM3.out.own.lt _ e.symm).1; omega)]; exact hm4'.xb
              have fx5 := free_of_block hx5 2
              have cx5 := cell_of_block' hx5 2
              have cb2 := cell_of_block' HM3.out.scan.block 2
              have fb2 := free_of_block HM3.out.scan.block 2
              have cx4 := cell_of_block' hm4.xb 2
              have hsz4 : (w3.setCell ⟨b, 2, none⟩ (.bool true)).heap.size = w3.heap.size := by simp [World.setCell]
              rw [hsz4] at hrun
              simp at cb2 cx4 cx5
              have HRUN := Lib.hid hrun
              clear hrun hown5 hgrow5 hx5 hm4 hsz4
              go_wp2_with (at_builtin; refine wpList_append_run rfl _ _ 104 rfl _ _ rfl rfl _ _ rfl HRUN.out ?_)
              go_roundg (2 * (rs.length - k2) + (if true then 0 else 1))
              case measure => simp; omega
              case rel => exact ⟨⟨k2, true, va', vc', sp ++ [(lo, hi2)], HM5.out, by omega, by simp; omega, .inr (by simp), fun _ => HRES.out, fun h => by (cases h), by simp⟩, trivial⟩
            | false =>
              rw [hbe] at HM3
              have HX2 := Lib.hid (HX1.out.2 hbe)
              have HL2 := Lib.hid (isSome_lt HQ3.out hbe)
              clear hbe
              by_cases hlo : hi2 < lo
              · have hloz : (hi2 : Int) < (lo : Int) := by omega
                have HRES := Lib.hid (go_none HR0'.out HT.out (by rw [HX2.out, if_pos hlo]))
                have hsp2 : sp.length + 1 ≤ 4294967281 := by have := HM3.out.scan.small; have := HM3.out.scan.le; omega
                have hm4 : ClassMem w b R cap rs true k2 true va vc sp (w3.setCell ⟨b, 2, none⟩ (.bool true)) := HM3.out.kept (HM3.out.scan.setBad true) (grown_setCell (grown_refl _ _) _)
                obtain ⟨v', w5, hrun, hown5, hgrow5, hnn⟩ := append_one (t := 104) Tryd.underlying104 hi hz0 hz1 hz2 rfl (by decide) (w3.setCell ⟨b, 2, none⟩ (.bool true)) (.slice va sp.length vc) sp.length (spanCells sp) hm4.own
                  [.int .i32 (lo : Int), .int .i32 (hi2 : Int)] rfl (by intro u hu; simp at hu; rcases hu with rfl | rfl <;> rfl) (by unfold maxLen; omega) (by omega) hm4.base
                obtain ⟨va', vc', hv'⟩ := own_form' hown5
                subst hv'
                have HM5 := Lib.hid (HM3.out.step true lo hi2 va' vc' hown5 hgrow5)
                have hx5 : w5.heap[w.heap.size + 1]? = some (.cells #[.bool false, .bool true, .slice va sp.length vc] 106) := by
                  have hm4' := hm4.kept (hm4.scan.grown ((Below.refl _ _).alloc (Nat.le_refl _) (.cells [Value.int .i32 (lo : Int), .int .i32 (hi2 : Int)].toArray 109))) (World.grownBy_alloc _ _ _)
                  rw [hgrow5.block _ (lt_of_block hm4'.xb) (fun e => by have := (HM3.out.own.lt _ e.symm).1; omega)]; exact hm4'.xb
                have fx5 := free_of_block hx5 2
                have cx5 := cell_of_block' hx5 2
                have cb2 := cell_of_block' HM3.out.scan.block 2
                have fb2 := free_of_block HM3.out.scan.block 2
                have cx4 := cell_of_block' hm4.xb 2
                have hsz4 : (w3.setCell ⟨b, 2, none⟩ (.bool true)).heap.size = w3.heap.size := by simp [World.setCell]
                rw [hsz4] at hrun
                simp at cb2 cx4 cx5
                have HRUN := Lib.hid hrun
                clear hrun hown5 hgrow5 hx5 hm4 hsz4
                go_wp2_with (at_builtin; refine wpList_append_run rfl _ _ 104 rfl _ _ rfl rfl _ _ rfl HRUN.out ?_)
                go_roundg (2 * (rs.length - k2) + (if true then 0 else 1))
                case measure => simp; omega
                case rel => exact ⟨⟨k2, true, va', vc', sp ++ [(lo, hi2)], HM5.out, by omega, by simp; omega, .inr (by simp), fun _ => HRES.out, fun h => by (cases h), by simp⟩, trivial⟩
              · have hloz : ¬ (hi2 : Int) < (lo : Int) := by omega
                have HSOME := Lib.hid (go_some HR0'.out HT.out (s := (lo, hi2)) (u := rs.drop k2) (by rw [HX2.out, if_neg hlo]))
                have hsp2 : sp.length + 1 ≤ 4294967281 := by have := HM3.out.scan.small; have := HM3.out.scan.le; omega
                have hm4 : ClassMem w b R cap rs true k2 false va vc sp (w3.setCell ⟨b, 2, none⟩ (.bool false)) := HM3.out.kept (HM3.out.scan.setBad false) (grown_setCell (grown_refl _ _) _)
                obtain ⟨v', w5, hrun, hown5, hgrow5, hnn⟩ := append_one (t := 104) Tryd.underlying104 hi hz0 hz1 hz2 rfl (by decide) (w3.setCell ⟨b, 2, none⟩ (.bool false)) (.slice va sp.length vc) sp.length (spanCells sp) hm4.own
                  [.int .i32 (lo : Int), .int .i32 (hi2 : Int)] rfl (by intro u hu; simp at hu; rcases hu with rfl | rfl <;> rfl) (by unfold maxLen; omega) (by omega) hm4.base
                obtain ⟨va', vc', hv'⟩ := own_form' hown5
                subst hv'
                have HM5 := Lib.hid (HM3.out.step false lo hi2 va' vc' hown5 hgrow5)
                have hx5 : w5.heap[w.heap.size + 1]? = some (.cells #[.bool false, .bool true, .slice va sp.length vc] 106) := by
                  have hm4' := hm4.kept (hm4.scan.grown ((Below.refl _ _).alloc (Nat.le_refl _) (.cells [Value.int .i32 (lo : Int), .int .i32 (hi2 : Int)].toArray 109))) (World.grownBy_alloc _ _ _)
                  rw [hgrow5.block _ (lt_of_block hm4'.xb) (fun e => by have := (HM3.out.own.lt _ e.symm).1; omega)]; exact hm4'.xb
                have fx5 := free_of_block hx5 2
                have cx5 := cell_of_block' hx5 2
                have cb2 := cell_of_block' HM3.out.scan.block 2
                have fb2 := free_of_block HM3.out.scan.block 2
                have cx4 := cell_of_block' hm4.xb 2
                have hsz4 : (w3.setCell ⟨b, 2, none⟩ (.bool false)).heap.size = w3.heap.size := by simp [World.setCell]
                rw [hsz4] at hrun
                simp at cb2 cx4 cx5
                have HRUN := Lib.hid hrun
                clear hrun hown5 hgrow5 hx5 hm4 hsz4
                go_wp2_with (at_builtin; refine wpList_append_run rfl _ _ 104 rfl _ _ rfl rfl _ _ rfl HRUN.out ?_)
                go_roundg (2 * (rs.length - k2) + (if false then 0 else 1))
                case measure => have := HL1.out; have := HL2.out; simp; omega
                case rel => exact ⟨⟨k2, false, va', vc', sp ++ [(lo, hi2)], HM5.out, by omega, by have := HL1.out; have := HL2.out; simp; omega, .inr (by simp), fun h => by (cases h), fun _ => HSOME.out, by simp⟩, trivial⟩
        | false =>
          rw [hB2] at hP2
          have HP2 := Lib.hid hP2
          have HB2 := Lib.hid (beq_eq_false_iff_ne.1 hB2)
          clear hP2 hB2
          go_wp2_with fail
          refine HP2.out.mono ?_
          rintro e w3 ⟨rfl, q2, hw2⟩
          have HM3 := Lib.hid (show ClassMem w b R cap rs true k1 _ va vc sp w3 by rw [hw2]; exact HM1.out.kept (HS1.out.grown (below_drewN (Below.refl _ _) q2)) (grown_drewN (grown_refl _ _) q2))
          clear hw2
          rw [Bool.false_or] at HM3
          cases hbd : (Pn.elementP (rs.drop k')).isNone with
          | true =>
            rw [hbd] at HM3
            have HRES := Lib.hid (go_none HR0'.out HT.out (HSR.out.1 hbd))
            clear hbd
            have hsp2 : sp.length + 1 ≤ 4294967281 := by have := HM3.out.scan.small; have := HM3.out.scan.le; omega
            have hm4 : ClassMem w b R cap rs true k1 true va vc sp (w3.setCell ⟨b, 2, none⟩ (.bool true)) := HM3.out.kept (HM3.out.scan.setBad true) (grown_setCell (grown_refl _ _) _)
            obtain ⟨v', w5, hrun, hown5, hgrow5, hnn⟩ := append_one (t := 104) Tryd.underlying104 hi hz0 hz1 hz2 rfl (by decide) (w3.setCell ⟨b, 2, none⟩ (.bool true)) (.slice va sp.length vc) sp.length (spanCells sp) hm4.own
              [.int .i32 (lo : Int), .int .i32 (lo : Int)] rfl (by intro u hu; simp at hu; rcases hu with rfl | rfl <;> rfl) (by unfold maxLen; omega) (by omega) hm4.base
            obtain ⟨va', vc', hv'⟩ := own_form' hown5
            subst hv'
            have HM5 := Lib.hid (HM3.out.step true lo lo va' vc' hown5 hgrow5)
            have hx5 : w5.heap[w.heap.size + 1]? = some (.cells #[.bool false, .bool true, .slice va sp.length vc] 106) := by
              have hm4' := hm4.kept (hm4.scan.grown ((Below.refl _ _).alloc (Nat.le_refl _) (.cells [Value.int .i32 (lo : Int), .int .i32 (lo : Int)].toArray 109))) (World.grownBy_alloc _ _ _)
              rw [hgrow5.block _ (lt_of_block hm4'.xb) (fun e => by have := (HM3.out.own.lt _ e.symm).1; omega)]; exact hm4'.xb
            have fx5 := free_of_block hx5 2
            have cx5 := cell_of_block' hx5 2
            have cb2 := cell_of_block' HM3.out.scan.block 2
            have fb2 := free_of_block HM3.out.scan.block 2
            have cx4 := cell_of_block' hm4.xb 2
            have hsz4 : (w3.setCell ⟨b, 2, none⟩ (.bool true)).heap.size = w3.heap.size := by simp [World.setCell]
            rw [hsz4] at hrun
            simp at cb2 cx4 cx5
            have HRUN := Lib.hid hrun
            clear hrun hown5 hgrow5 hx5 hm4 hsz4
            go_wp2_with (at_builtin; refine wpList_append_run rfl _ _ 104 rfl _ _ rfl rfl _ _ rfl HRUN.out ?_)
            go_roundg (2 * (rs.length - k1) + (if true then 0 else 1))
            case measure => simp; omega
            case rel => exact ⟨⟨k1, true, va', vc', sp ++ [(lo, lo)], HM5.out, by omega, by simp; omega, .inr (by simp), fun _ => HRES.out, fun h => by (cases h), by simp⟩, trivial⟩
          | false =>
            rw [hbd] at HM3
            have HL1 := Lib.hid (isSome_lt HQ1.out hbd)
            have HSOME := Lib.hid (go_some HR0'.out HT.out (HSR.out.2.1 HB2.out hbd))
            clear hbd
            have hloz : ¬ (lo : Int) < (lo : Int) := by omega
            have hsp2 : sp.length + 1 ≤ 4294967281 := by have := HM3.out.scan.small; have := HM3.out.scan.le; omega
            have hm4 : ClassMem w b R cap rs true k1 false va vc sp (w3.setCell ⟨b, 2, none⟩ (.bool false)) := HM3.out.kept (HM3.out.scan.setBad false) (grown_setCell (grown_refl _ _) _)
            obtain ⟨v', w5, hrun, hown5, hgrow5, hnn⟩ := append_one (t := 104) Tryd.underlying104 hi hz0 hz1 hz2 rfl (by decide) (w3.setCell ⟨b, 2, none⟩ (.bool false)) (.slice va sp.length vc) sp.length (spanCells sp) hm4.own
              [.int .i32 (lo : Int), .int .i32 (lo : Int)] rfl (by intro u hu; simp at hu; rcases hu with rfl | rfl <;> rfl) (by unfold maxLen; omega) (by omega) hm4.base
            obtain ⟨va', vc', hv'⟩ := own_form' hown5
            subst hv'
            have HM5 := Lib.hid (HM3.out.step false lo lo va' vc' hown5 hgrow5)
            have hx5 : w5.heap[w.heap.size + 1]? = some (.cells #[.bool false, .bool true, .slice va sp.length vc] 106) := by
              have hm4' := hm4.kept (hm4.scan.grown ((Below.refl _ _).alloc (Nat.le_refl _) (.cells [Value.int .i32 (lo : Int), .int .i32 (lo : Int)].toArray 109))) (World.grownBy_alloc _ _ _)
              rw [hgrow5.block _ (lt_of_block hm4'.xb) (fun e => by have := (HM3.out.own.lt _ e.symm).1; omega)]; exact hm4'.xb
            have fx5 := free_of_block hx5 2
            have cx5 := cell_of_block' hx5 2
            have cb2 := cell_of_block' HM3.out.scan.block 2
            have fb2 := free_of_block HM3.out.scan.block 2
            have cx4 := cell_of_block' hm4.xb 2
            have hsz4 : (w3.setCell ⟨b, 2, none⟩ (.bool false)).heap.size = w3.heap.size := by simp [World.setCell]
            rw [hsz4] at hrun
            simp at cb2 cx4 cx5
            have HRUN := Lib.hid hrun
            clear hrun hown5 hgrow5 hx5 hm4 hsz4
            go_wp2_with (at_builtin; refine wpList_append_run rfl _ _ 104 rfl _ _ rfl rfl _ _ rfl HRUN.out ?_)
            go_roundg (2 * (rs.length - k1) + (if false then 0 else 1))
            case measure => have := HL1.out; simp; omega
            case rel => exact ⟨⟨k1, false, va', vc', sp ++ [(lo, lo)], HM5.out, by omega, by have := HL1.out; simp; omega, .inr (by simp), fun h => by (cases h), fun _ => HSOME.out, by simp⟩, trivial⟩
      · have hl0 : ((sp.length : Int) == 0) = false := by rw [beq_eq_false_iff_ne]; have := List.length_pos_iff.2 hs0; omega
        have hP1 := peek_any b R cap rs k' false 93 wr HM.out.scan
        cases hB : ((rs.drop k').head? == some 93) with
        | true =>
          rw [hB] at hP1
          have HP1 := Lib.hid hP1
          have HB93 := Lib.hid hB
          have HS0 := Lib.hid hs0
          clear hP1 hB hs0
          go_wp2_with (go_at_call 91; refine HP1.out.mono ?_; rintro e wq ⟨rfl, q1, hwq⟩; have HMx := Lib.hid (show ClassMem w b R cap rs true k' false va vc sp wq by rw [hwq]; exact HM.out.kept (HM.out.scan.grown (below_drewN (Below.refl _ _) q1)) (grown_drewN (grown_refl _ _) q1)); clear hwq)
          refine (next_any b R cap rs k' false wq HMx.out.scan).mono ?_
          rintro e w1 ⟨r, k2, rfl, hS1, hk2s, hk2, hg1⟩
          have HM1 := Lib.hid (HMx.out.kept hS1 hg1)
          have HK2 := Lib.hid hk2s
          have y0 := cell_of_block' HM1.out.xb 0
          have y1 := cell_of_block' HM1.out.xb 1
          have y2 := cell_of_block' HM1.out.xb 2
          have z0 := free_of_block HM1.out.rb 0
          have z1 := free_of_block HM1.out.rb 1
          have z2 := free_of_block HM1.out.rb 2
          have v0 := cell_of_block' HM1.out.rb 0
          have v1 := cell_of_block' HM1.out.rb 1
          have v2 := cell_of_block' HM1.out.rb 2
          simp at y0 y1 y2 v0 v1 v2
          have Z := Lib.hid HM1.out.rb
          clear hS1 hg1 hk2s
          go_wp2_with fail
          have E := block_set (block_set (block_set Z.out 0 (.bool false)) 1 (.bool true)) 2 (.slice va sp.length vc)
          simp at E
          have e0 := cell_of_block' E 0
          have e1 := cell_of_block' E 1
          have e2 := cell_of_block' E 2
          simp at e0 e1 e2
          refine bodyPost_ret (v := .agg #[.bool false, .bool true, .slice va sp.length vc]) (by simp [results, Tryd.results77, go_sem, e0, e1, e2]) rfl ?_
          have hgw := grown_setCell (i := 2) (grown_setCell (i := 1) (grown_setCell (i := 0) (grown_refl w1 (some w.heap.size)) (.bool false)) (.bool true)) (.slice va sp.length vc)
          refine class_end HM1.out hgw (by omega) ?_

          unfold Pn.classTop; rw [if_pos (by have := HC.out; rw [beq_iff_eq] at this; exact this), List.tail_drop]
          have hlt : k' < rs.length := by
            rcases Nat.lt_or_ge k' rs.length with h | h
            · exact h
            · have := HB93.out; rw [List.drop_eq_nil_of_le h] at this; cases this
          rw [go_done HR0'.out HS0.out (by have := HB93.out; rw [beq_iff_eq] at this; exact this), (HK2.out hlt).1]
          simp
          omega
        | false =>
          rw [hB] at hP1
          have HP1 := Lib.hid hP1
          have HT := Lib.hid (show sp = [] ∨ (rs.drop k').head? ≠ some 93 from .inr (beq_eq_false_iff_ne.1 hB))
          clear hP1 hB hs0
          go_wp2_with (go_at_call 91; refine HP1.out.mono ?_; rintro e wq ⟨rfl, q1, hwq⟩; have HMx := Lib.hid (show ClassMem w b R cap rs true k' false va vc sp wq by rw [hwq]; exact HM.out.kept (HM.out.scan.grown (below_drewN (Below.refl _ _) q1)) (grown_drewN (grown_refl _ _) q1)); clear hwq)
          refine (element_all b R cap rs k' false wq HMx.out.scan).mono ?_
          rintro e w1 ⟨lo, k1, rfl, hk1, hS1, hg1, hq1⟩
          have HM1 := Lib.hid (HMx.out.kept hS1 hg1)
          have HSR := Lib.hid (span_read rs k' k1 lo hq1)
          have HQ1 := Lib.hid hq1
          have HS1 := Lib.hid hS1
          clear hS1 hg1 hq1
          have hle1 := HS1.out.le
          have hsm1 := HS1.out.small
          have hP2 := peek_any b R cap rs k1 _ 45 w1 HS1.out
          cases hB2 : ((rs.drop k1).head? == some 45) with
          | true =>
            rw [hB2] at hP2
            have HP2 := Lib.hid hP2
            have HB2 := Lib.hid (beq_iff_eq.1 hB2)
            have hlt1 : k1 < rs.length := by
              rcases Nat.lt_or_ge k1 rs.length with h | h
              · exact h
              · rw [List.drop_eq_nil_of_le h] at hB2; cases hB2
            have b1 := cell_of_block' HS1.out.block 1
            have g1 := free_of_block HS1.out.block 1
            simp at b1
            clear hP2 hB2
            go_wp2_with fail
            refine HP2.out.mono ?_
            rintro e w2 ⟨rfl, q2, rfl⟩
            go_wp2_with fail
            have hS2 := HS1.out.setAt hlt1 q2
            have HM2 := Lib.hid (HM1.out.kept hS2 (grown_setCell (grown_drewN (grown_refl _ _) q2) _))
            refine (element_all b R cap rs (k1 + 1) _ _ hS2).mono ?_
            clear hS2
            rintro e w3 ⟨hi2, k2, rfl, hk2, hS3, hg3, hq3⟩
            have HM3 := Lib.hid (HM2.out.kept hS3 hg3)
            have HSR3 := Lib.hid fun h => HSR.out.2.2 HB2.out h k2 hi2 hq3
            have HQ3 := Lib.hid hq3
            clear hS3 hg3 hq3
            rw [Bool.false_or] at HM3
            cases hbd : (Pn.elementP (rs.drop k')).isNone with
            | true =>
              rw [hbd, Bool.true_or] at HM3
              have HRES := Lib.hid (go_none HR0'.out HT.out (HSR.out.1 hbd))
              clear hbd
              have hsp2 : sp.length + 1 ≤ 4294967281 := by have := HM3.out.scan.small; have := HM3.out.scan.le; omega
              have hm4 : ClassMem w b R cap rs true k2 true va vc sp (w3.setCell ⟨b, 2, none⟩ (.bool true)) := HM3.out.kept (HM3.out.scan.setBad true) (grown_setCell (grown_refl _ _) _)
              obtain ⟨v', w5, hrun, hown5, hgrow5, hnn⟩ := append_one (t := 104) Tryd.underlying104 hi hz0 hz1 hz2 rfl (by decide) (w3.setCell ⟨b, 2, none⟩ (.bool true)) (.slice va sp.length vc) sp.length (spanCells sp) hm4.own
                [.int .i32 (lo : Int), .int .i32 (hi2 : Int)] rfl (by intro u hu; simp at hu; rcases hu with rfl | rfl <;> rfl) (by unfold maxLen; omega) (by omega) hm4.base
              obtain ⟨va', vc', hv'⟩ := own_form' hown5
              subst hv'
              have HM5 := Lib.hid (HM3.out.step true lo hi2 va' vc' hown5 hgrow5)
              have hx5 : w5.heap[w.heap.size + 1]? = some (.cells #[.bool false, .bool true, .slice va sp.length vc] 106) := by
                have hm4' := hm4.kept (hm4.scan.grown ((Below.refl _ _).alloc (Nat.le_refl _) (.cells [Value.int .i32 (lo : Int), .int .i32 (hi2 : Int)].toArray 109))) (World.grownBy_alloc _ _ _)
                rw [hgrow5.block _ (lt_of_block hm4'.xb) (fun e => by have := (HM3.out.own.lt _ e.symm).1; omega)]; exact hm4'.xb
              have fx5 := free_of_block hx5 2
              have cx5 := cell_of_block' hx5 2
              have cb2 := cell_of_block' HM3.out.scan.block 2
              have fb2 := free_of_block HM3.out.scan.block 2
              have cx4 := cell_of_block' hm4.xb 2
              have hsz4 : (w3.setCell ⟨b, 2, none⟩ (.bool true)).heap.size = w3.heap.size := by simp [World.setCell]
              rw [hsz4] at hrun
              simp at cb2 cx4 cx5
              have HRUN := Lib.hid hrun
              clear hrun hown5 hgrow5 hx5 hm4 hsz4
              go_wp2_with (at_builtin; refine wpList_append_run rfl _ _ 104 rfl _ _ rfl rfl _ _ rfl HRUN.out ?_)
              go_roundg (2 * (rs.length - k2) + (if true then 0 else 1))
              case measure => simp; omega
              case rel => exact ⟨⟨k2, true, va', vc', sp ++ [(lo, hi2)], HM5.out, by omega, by simp; omega, .inr (by simp), fun _ => HRES.out, fun h => by (cases h), by simp⟩, trivial⟩
            | false =>
              have HX1 := Lib.hid (HSR3.out hbd)
              rw [hbd, Bool.false_or] at HM3
              have HL1 := Lib.hid (isSome_lt HQ1.out hbd)
              clear hbd
              cases hbe : (Pn.elementP (rs.drop (k1 + 1))).isNone with
              | true =>
                rw [hbe] at HM3
                have HRES := Lib.hid (go_none HR0'.out HT.out (HX1.out.1 hbe))
                clear hbe
                have hsp2 : sp.length + 1 ≤ 4294967281 := by have := HM3.out.scan.small; have := HM3.out.scan.le; omega
                have hm4 : ClassMem w b R cap rs true k2 true va vc sp (w3.setCell ⟨b, 2, none⟩ (.bool true)) := HM3.out.kept (HM3.out.scan.setBad true) (grown_setCell (grown_refl _ _) _)
                obtain ⟨v', w5, hrun, hown5, hgrow5, hnn⟩ := append_one (t := 104) Tryd.underlying104 hi hz0 hz1 hz2 rfl (by decide) (w3.setCell ⟨b, 2, none⟩ (.bool true)) (.slice va sp.length vc) sp.length (spanCells sp) hm4.own
                  [.int .i32 (lo : Int), .int .i32 (hi2 : Int)] rfl (by intro u hu; simp at hu; rcases hu with rfl | rfl <;> rfl) (by unfold maxLen; omega) (by omega) hm4.base
                obtain ⟨va', vc', hv'⟩ := own_form' hown5
                subst hv'
                have HM5 := Lib.hid (HM3.out.step true lo hi2 va' vc' hown5 hgrow5)
                have hx5 : w5.heap[w.heap.size + 1]? = some (.cells #[.bool false, .bool true, .slice va sp.length vc] 106) := by
                  have hm4' := hm4.kept (hm4.scan.grown ((Below.refl _ _).alloc (Nat.le_refl _) (.cells [Value.int .i32 (lo : Int), .int .i32 (hi2 : Int)].toArray 109))) (World.grownBy_alloc _ _ _)
                  rw [hgrow5.block _ (lt_of_block hm4'.xb) (fun e => by have := (HM3.out.own.lt _ e.symm).1; omega)]; exact hm4'.xb
                have fx5 := free_of_block hx5 2
                have cx5 := cell_of_block' hx5 2
                have cb2 := cell_of_block' HM3.out.scan.block 2
                have fb2 := free_of_block HM3.out.scan.block 2
                have cx4 := cell_of_block' hm4.xb 2
                have hsz4 : (w3.setCell ⟨b, 2, none⟩ (.bool true)).heap.size = w3.heap.size := by simp [World.setCell]
                rw [hsz4] at hrun
                simp at cb2 cx4 cx5
                have HRUN := Lib.hid hrun
                clear hrun hown5 hgrow5 hx5 hm4 hsz4
                go_wp2_with (at_builtin; refine wpList_append_run rfl _ _ 104 rfl _ _ rfl rfl _ _ rfl HRUN.out ?_)
                go_roundg (2 * (rs.length - k2) + (if true then 0 else 1))
                case measure => simp; omega
                case rel => exact ⟨⟨k2, true, va', vc', sp ++ [(lo, hi2)], HM5.out, by omega, by simp; omega, .inr (by simp), fun _ => HRES.out, fun h => by (cases h), by simp⟩, trivial⟩
              | false =>
                rw [hbe] at HM3
                have HX2 := Lib.hid (HX1.out.2 hbe)
                have HL2 := Lib.hid (isSome_lt HQ3.out hbe)
                clear hbe
                by_cases hlo : hi2 < lo
                · have hloz : (hi2 : Int) < (lo : Int) := by omega
                  have HRES := Lib.hid (go_none HR0'.out HT.out (by rw [HX2.out, if_pos hlo]))
                  have hsp2 : sp.length + 1 ≤ 4294967281 := by have := HM3.out.scan.small; have := HM3.out.scan.le; omega
                  have hm4 : ClassMem w b R cap rs true k2 true va vc sp (w3.setCell ⟨b, 2, none⟩ (.bool true)) := HM3.out.kept (HM3.out.scan.setBad true) (grown_setCell (grown_refl _ _) _)
                  obtain ⟨v', w5, hrun, hown5, hgrow5, hnn⟩ := append_one (t := 104) Tryd.underlying104 hi hz0 hz1 hz2 rfl (by decide) (w3.setCell ⟨b, 2, none⟩ (.bool true)) (.slice va sp.length vc) sp.length (spanCells sp) hm4.own
                    [.int .i32 (lo : Int), .int .i32 (hi2 : Int)] rfl (by intro u hu; simp at hu; rcases hu with rfl | rfl <;> rfl) (by unfold maxLen; omega) (by omega) hm4.base
                  obtain ⟨va', vc', hv'⟩ := own_form' hown5
                  subst hv'
                  have HM5 := Lib.hid (HM3.out.step true lo hi2 va' vc' hown5 hgrow5)
                  have hx5 : w5.heap[w.heap.size + 1]? = some (.cells #[.bool false, .bool true, .slice va sp.length vc] 106) := by
                    have hm4' := hm4.kept (hm4.scan.grown ((Below.refl _ _).alloc (Nat.le_refl _) (.cells [Value.int .i32 (lo : Int), .int .i32 (hi2 : Int)].toArray 109))) (World.grownBy_alloc _ _ _)
                    rw [hgrow5.block _ (lt_of_block hm4'.xb) (fun e => by have := (HM3.out.own.lt _ e.symm).1; omega)]; exact hm4'.xb
                  have fx5 := free_of_block hx5 2
                  have cx5 := cell_of_block' hx5 2
                  have cb2 := cell_of_block' HM3.out.scan.block 2
                  have fb2 := free_of_block HM3.out.scan.block 2
                  have cx4 := cell_of_block' hm4.xb 2
                  have hsz4 : (w3.setCell ⟨b, 2, none⟩ (.bool true)).heap.size = w3.heap.size := by simp [World.setCell]
                  rw [hsz4] at hrun
                  simp at cb2 cx4 cx5
                  have HRUN := Lib.hid hrun
                  clear hrun hown5 hgrow5 hx5 hm4 hsz4
                  go_wp2_with (at_builtin; refine wpList_append_run rfl _ _ 104 rfl _ _ rfl rfl _ _ rfl HRUN.out ?_)
                  go_roundg (2 * (rs.length - k2) + (if true then 0 else 1))
                  case measure => simp; omega
                  case rel => exact ⟨⟨k2, true, va', vc', sp ++ [(lo, hi2)], HM5.out, by omega, by simp; omega, .inr (by simp), fun _ => HRES.out, fun h => by (cases h), by simp⟩, trivial⟩
                · have hloz : ¬ (hi2 : Int) < (lo : Int) := by omega
                  have HSOME := Lib.hid (go_some HR0'.out HT.out (s := (lo, hi2)) (u := rs.drop k2) (by rw [HX2.out, if_neg hlo]))
                  have hsp2 : sp.length + 1 ≤ 4294967281 := by have := HM3.out.scan.small; have := HM3.out.scan.le; omega
                  have hm4 : ClassMem w b R cap rs true k2 false va vc sp (w3.setCell ⟨b, 2, none⟩ (.bool false)) := HM3.out.kept (HM3.out.scan.setBad false) (grown_setCell (grown_refl _ _) _)
                  obtain ⟨v', w5, hrun, hown5, hgrow5, hnn⟩ := append_one (t := 104) Tryd.underlying104 hi hz0 hz1 hz2 rfl (by decide) (w3.setCell ⟨b, 2, none⟩ (.bool false)) (.slice va sp.length vc) sp.length (spanCells sp) hm4.own
                    [.int .i32 (lo : Int), .int .i32 (hi2 : Int)] rfl (by intro u hu; simp at hu; rcases hu with rfl | rfl <;> rfl) (by unfold maxLen; omega) (by omega) hm4.base
                  obtain ⟨va', vc', hv'⟩ := own_form' hown5
                  subst hv'
                  have HM5 := Lib.hid (HM3.out.step false lo hi2 va' vc' hown5 hgrow5)
                  have hx5 : w5.heap[w.heap.size + 1]? = some (.cells #[.bool false, .bool true, .slice va sp.length vc] 106) := by
                    have hm4' := hm4.kept (hm4.scan.grown ((Below.refl _ _).alloc (Nat.le_refl _) (.cells [Value.int .i32 (lo : Int), .int .i32 (hi2 : Int)].toArray 109))) (World.grownBy_alloc _ _ _)
                    rw [hgrow5.block _ (lt_of_block hm4'.xb) (fun e => by have := (HM3.out.own.lt _ e.symm).1; omega)]; exact hm4'.xb
                  have fx5 := free_of_block hx5 2
                  have cx5 := cell_of_block' hx5 2
                  have cb2 := cell_of_block' HM3.out.scan.block 2
                  have fb2 := free_of_block HM3.out.scan.block 2
                  have cx4 := cell_of_block' hm4.xb 2
                  have hsz4 : (w3.setCell ⟨b, 2, none⟩ (.bool false)).heap.size = w3.heap.size := by simp [World.setCell]
                  rw [hsz4] at hrun
                  simp at cb2 cx4 cx5
                  have HRUN := Lib.hid hrun
                  clear hrun hown5 hgrow5 hx5 hm4 hsz4
                  go_wp2_with (at_builtin; refine wpList_append_run rfl _ _ 104 rfl _ _ rfl rfl _ _ rfl HRUN.out ?_)
                  go_roundg (2 * (rs.length - k2) + (if false then 0 else 1))
                  case measure => have := HL1.out; have := HL2.out; simp; omega
                  case rel => exact ⟨⟨k2, false, va', vc', sp ++ [(lo, hi2)], HM5.out, by omega, by have := HL1.out; have := HL2.out; simp; omega, .inr (by simp), fun h => by (cases h), fun _ => HSOME.out, by simp⟩, trivial⟩
          | false =>
            rw [hB2] at hP2
            have HP2 := Lib.hid hP2
            have HB2 := Lib.hid (beq_eq_false_iff_ne.1 hB2)
            clear hP2 hB2
            go_wp2_with fail
            refine HP2.out.mono ?_
            rintro e w3 ⟨rfl, q2, hw2⟩
            have HM3 := Lib.hid (show ClassMem w b R cap rs true k1 _ va vc sp w3 by rw [hw2]; exact HM1.out.kept (HS1.out.grown (below_drewN (Below.refl _ _) q2)) (grown_drewN (grown_refl _ _) q2))
            clear hw2
            rw [Bool.false_or] at HM3
            cases hbd : (Pn.elementP (rs.drop k')).isNone with
            | true =>
              rw [hbd] at HM3
              have HRES := Lib.hid (go_none HR0'.out HT.out (HSR.out.1 hbd))
              clear hbd
              have hsp2 : sp.length + 1 ≤ 4294967281 := by have := HM3.out.scan.small; have := HM3.out.scan.le; omega
              have hm4 : ClassMem w b R cap rs true k1 true va vc sp (w3.setCell ⟨b, 2, none⟩ (.bool true)) := HM3.out.kept (HM3.out.scan.setBad true) (grown_setCell (grown_refl _ _) _)
              obtain ⟨v', w5, hrun, hown5, hgrow5, hnn⟩ := append_one (t := 104) Tryd.underlying104 hi hz0 hz1 hz2 rfl (by decide) (w3.setCell ⟨b, 2, none⟩ (.bool true)) (.slice va sp.length vc) sp.length (spanCells sp) hm4.own
                [.int .i32 (lo : Int), .int .i32 (lo : Int)] rfl (by intro u hu; simp at hu; rcases hu with rfl | rfl <;> rfl) (by unfold maxLen; omega) (by omega) hm4.base
              obtain ⟨va', vc', hv'⟩ := own_form' hown5
              subst hv'
              have HM5 := Lib.hid (HM3.out.step true lo lo va' vc' hown5 hgrow5)
              have hx5 : w5.heap[w.heap.size + 1]? = some (.cells #[.bool false, .bool true, .slice va sp.length vc] 106) := by
                have hm4' := hm4.kept (hm4.scan.grown ((Below.refl _ _).alloc (Nat.le_refl _) (.cells [Value.int .i32 (lo : Int), .int .i32 (lo : Int)].toArray 109))) (World.grownBy_alloc _ _ _)
                rw [hgrow5.block _ (lt_of_block hm4'.xb) (fun e => by have := (HM3.out.own.lt _ e.symm).1; omega)]; exact hm4'.xb
              have fx5 := free_of_block hx5 2
              have cx5 := cell_of_block' hx5 2
              have cb2 := cell_of_block' HM3.out.scan.block 2
              have fb2 := free_of_block HM3.out.scan.block 2
              have cx4 := cell_of_block' hm4.xb 2
              have hsz4 : (w3.setCell ⟨b, 2, none⟩ (.bool true)).heap.size = w3.heap.size := by simp [World.setCell]
              rw [hsz4] at hrun
              simp at cb2 cx4 cx5
              have HRUN := Lib.hid hrun
              clear hrun hown5 hgrow5 hx5 hm4 hsz4
              go_wp2_with (at_builtin; refine wpList_append_run rfl _ _ 104 rfl _ _ rfl rfl _ _ rfl HRUN.out ?_)
              go_roundg (2 * (rs.length - k1) + (if true then 0 else 1))
              case measure => simp; omega
              case rel => exact ⟨⟨k1, true, va', vc', sp ++ [(lo, lo)], HM5.out, by omega, by simp; omega, .inr (by simp), fun _ => HRES.out, fun h => by (cases h), by simp⟩, trivial⟩
            | false =>
              rw [hbd] at HM3
              have HL1 := Lib.hid (isSome_lt HQ1.out hbd)
              have HSOME := Lib.hid (go_some HR0'.out HT.out (HSR.out.2.1 HB2.out hbd))
              clear hbd
              have hloz : ¬ (lo : Int) < (lo : Int) := by omega
              have hsp2 : sp.length + 1 ≤ 4294967281 := by have := HM3.out.scan.small; have := HM3.out.scan.le; omega
              have hm4 : ClassMem w b R cap rs true k1 false va vc sp (w3.setCell ⟨b, 2, none⟩ (.bool false)) := HM3.out.kept (HM3.out.scan.setBad false) (grown_setCell (grown_refl _ _) _)
              obtain ⟨v', w5, hrun, hown5, hgrow5, hnn⟩ := append_one (t := 104) Tryd.underlying104 hi hz0 hz1 hz2 rfl (by decide) (w3.setCell ⟨b, 2, none⟩ (.bool false)) (.slice va sp.length vc) sp.length (spanCells sp) hm4.own
                [.int .i32 (lo : Int), .int .i32 (lo : Int)] rfl (by intro u hu; simp at hu; rcases hu with rfl | rfl <;> rfl) (by unfold maxLen; omega) (by omega) hm4.base
              obtain ⟨va', vc', hv'⟩ := own_form' hown5
              subst hv'
              have HM5 := Lib.hid (HM3.out.step false lo lo va' vc' hown5 hgrow5)
              have hx5 : w5.heap[w.heap.size + 1]? = some (.cells #[.bool false, .bool true, .slice va sp.length vc] 106) := by
                have hm4' := hm4.kept (hm4.scan.grown ((Below.refl _ _).alloc (Nat.le_refl _) (.cells [Value.int .i32 (lo : Int), .int .i32 (lo : Int)].toArray 109))) (World.grownBy_alloc _ _ _)
                rw [hgrow5.block _ (lt_of_block hm4'.xb) (fun e => by have := (HM3.out.own.lt _ e.symm).1; omega)]; exact hm4'.xb
              have fx5 := free_of_block hx5 2
              have cx5 := cell_of_block' hx5 2
              have cb2 := cell_of_block' HM3.out.scan.block 2
              have fb2 := free_of_block HM3.out.scan.block 2
              have cx4 := cell_of_block' hm4.xb 2
              have hsz4 : (w3.setCell ⟨b, 2, none⟩ (.bool false)).heap.size = w3.heap.size := by simp [World.setCell]
              rw [hsz4] at hrun
              simp at cb2 cx4 cx5
              have HRUN := Lib.hid hrun
              clear hrun hown5 hgrow5 hx5 hm4 hsz4
              go_wp2_with (at_builtin; refine wpList_append_run rfl _ _ 104 rfl _ _ rfl rfl _ _ rfl HRUN.out ?_)
              go_roundg (2 * (rs.length - k1) + (if false then 0 else 1))
              case measure => have := HL1.out; simp; omega
              case rel => exact ⟨⟨k1, false, va', vc', sp ++ [(lo, lo)], HM5.out, by omega, by have := HL1.out; simp; omega, .inr (by simp), fun h => by (cases h), fun _ => HSOME.out, by simp⟩, trivial⟩

/-- class. -/
theorem class_any (b R cap : Nat) (rs : List Nat) (k : Nat) (w : World) (h : Scan w b R cap rs k false) : Calls Tryd.prog 77 #[.pointer (some ⟨b, 0, none⟩)] w (ClassOk b R cap rs k w) := by
  cases hc : ((rs.drop k).head? == some 94)
  · exact class_plain b R cap rs k w h h.lt hc
  · exact class_not b R cap rs k w h h.lt hc

end Go.Proofs.YtdnbmkfmckppaaaDoor
