/-
  The walks of pathname's item.admits.
-/
import Derived.Test.YtdnbmkfmckppaaaDoorCompile
namespace Go.Proofs.YtdnbmkfmckppaaaDoor
open Go.RowKit Go.Lib

theorem spanCells_get (sps : List (Nat × Nat)) (i : Nat) (h : i < sps.length) : (spanCells sps)[i * 2]? = some (.int .i32 (sps[i].1 : Int)) ∧ (spanCells sps)[i * 2 + 1]? = some (.int .i32 (sps[i].2 : Int)) := by
  induction sps generalizing i with
  | nil => simp at h
  | cons p r ih =>
    have e : spanCells (p :: r) = [Value.int .i32 (p.1 : Int), Value.int .i32 (p.2 : Int)] ++ spanCells r := by simp [spanCells]
    cases i with
    | zero => rw [e]; simp
    | succ i =>
      have := ih i (by simpa using h)
      rw [e]
      refine ⟨?_, ?_⟩
      · rw [List.getElem?_append_right (by simp; omega)]
        simp only [List.length_cons, List.length_nil, List.getElem_cons_succ]
        rw [show (i + 1) * 2 - 2 = i * 2 by omega]; exact this.1
      · rw [List.getElem?_append_right (by simp; omega)]
        simp only [List.length_cons, List.length_nil, List.getElem_cons_succ]
        rw [show (i + 1) * 2 + 1 - 2 = i * 2 + 1 by omega]; exact this.2

/-- The closure of admits: whether r lies in a span. -/
theorem inspan_any (lo hi r : Nat) (B : Nat) (w : World) (hB : w.cell? ⟨B, 0, none⟩ = some (.int .i32 (r : Int))) :
    Calls Tryd.prog 102 #[.agg #[.int .i32 (lo : Int), .int .i32 (hi : Int)], .pointer (some ⟨B, 0, none⟩)] w fun e w' => e = .returned (.bool (decide (lo ≤ r) && decide (r ≤ hi))) ∧ Below w.heap.size w w' := by
  have hlt := World.block_lt_of_cell? _ _ hB
  by_cases h1 : lo ≤ r
  · have z1 : (lo : Int) ≤ (r : Int) := by omega
    by_cases h2 : r ≤ hi
    · have z2 : (r : Int) ≤ (hi : Int) := by omega
      rw [decide_eq_true h1, decide_eq_true h2]
      go_enter Tryd.func102, Tryd.ntmps102
      go_wp2
      go_ret
      exact ⟨rfl, (Below.refl _ _).alloc (Nat.le_refl _) _⟩
    · have z2 : ¬ (r : Int) ≤ (hi : Int) := by omega
      rw [decide_eq_true h1, decide_eq_false h2]
      go_enter Tryd.func102, Tryd.ntmps102
      go_wp2
      go_ret
      exact ⟨rfl, (Below.refl _ _).alloc (Nat.le_refl _) _⟩
  · have z1 : ¬ (lo : Int) ≤ (r : Int) := by omega
    rw [decide_eq_false h1]
    go_enter Tryd.func102, Tryd.ntmps102
    go_wp2
    go_ret
    exact ⟨rfl, (Below.refl _ _).alloc (Nat.le_refl _) _⟩

set_option maxHeartbeats 400000 in
set_option maxRecDepth 1000000 in
theorem indexFunc_span (sps : List (Nat × Nat)) (r : Nat) (va : Option Addr) (vc : Nat) (B base : Nat) (w : World) (hss : sps.length ≤ 9223372036854775807)
    (hB : w.cell? ⟨B, 0, none⟩ = some (.int .i32 (r : Int))) (hm : w.ownsRow base 109 2 (.slice va sps.length vc) sps.length (spanCells sps)) :
    Calls Tryd.prog 105 #[.slice va sps.length vc, .func (.func 102) #[] #[.pointer (some ⟨B, 0, none⟩)]] w (IdxOk (sps.any fun s => decide (s.1 ≤ r) && decide (r ≤ s.2)) w) := by
  have hBlt := World.block_lt_of_cell? _ _ hB
  have hB' := Lib.hid hB
  have HM := Lib.hid hm
  clear hB hm
  have eg := enters_of Tryd.func102 (by kernel_rfl) rfl
  go_enter Tryd.func105, Tryd.ntmps105
  go_wp2
  go_loopg [5, 8] sps.length (fun gg _ v w' => ∃ i : Nat, v = .int .i64 i ∧ i ≤ sps.length ∧ sps.length - i ≤ gg ∧ Hid (∀ j (h : j < sps.length), j < i → (decide (sps[j].1 ≤ r) && decide (r ≤ sps[j].2)) = false) ∧ Below w.heap.size w w')
  case atStart => exact ⟨0, rfl, Nat.zero_le _, by omega, fun _ _ h => absurd h (Nat.not_lt_zero _), Below.refl _ _⟩
  case round =>
    obtain ⟨i, rfl, hi, hgg, hno, hb⟩ := hrel
    by_cases hlt2 : i < sps.length
    · have hz : (i : Int) < (sps.length : Int) := by omega
      obtain ⟨x, hx⟩ : ∃ x, sps[i] = x := ⟨_, rfl⟩
      have HX := Lib.hid hx
      obtain ⟨g, rfl, hc1, hc2⟩ : ∃ g, va = some ⟨g, 0, none⟩ ∧ wr.cell? ⟨g, i * 2, none⟩ = some (.int .i32 (x.1 : Int)) ∧ wr.cell? ⟨g, i * 2 + 1, none⟩ = some (.int .i32 (x.2 : Int)) := by
        have hk := HM.out.kept (grown_below hb none) (by cases (Value.slice va sps.length vc).ownBlock <;> simp)
        have hs := spanCells_get sps i hlt2
        rw [hx] at hs
        rcases own_slice hk with ⟨_, h0, _⟩ | ⟨g, cap, hv, _, hg, _, _, hrow⟩
        · omega
        · have hlen := hk.1
          have r1 := hrow (i * 2) (by omega)
          have r2 := hrow (i * 2 + 1) (by omega)
          rw [List.getElem?_eq_getElem (by omega)] at hs
          rw [List.getElem?_eq_getElem (by omega)] at hs
          rw [Nat.zero_add] at r1 r2
          injection hv with h1
          exact ⟨g, h1, by rw [r1]; exact hs.1, by rw [r2]; exact hs.2⟩
      have hcall := inspan_any x.1 x.2 r B wr (by rw [hb.cell (p := ⟨B, 0, none⟩) hBlt]; exact hB'.out)
      clear hx
      cases hq : (decide (x.1 ≤ r) && decide (r ≤ x.2)) with
      | true =>
        rw [hq] at hcall
        have HA := Lib.hid (show (sps.any fun s => decide (s.1 ≤ r) && decide (r ≤ s.2)) = true from any_of_hit hlt2 (by rw [HX.out]; exact hq))
        have hcall := Lib.hid hcall
        clear hq
        go_wp2_with (go_at_call 102; refine hcall.out.mono ?_; rintro e w' ⟨rfl, hb1⟩)
        go_ret
        exact ⟨i, rfl, by rw [HA.out]; simp, below_then hb (by assumption)⟩
      | false =>
        rw [hq] at hcall
        have HQ := Lib.hid hq
        have hcall := Lib.hid hcall
        clear hq
        go_wp2_with (go_at_call 102; refine hcall.out.mono ?_; rintro e w' ⟨rfl, hb1⟩)
        go_roundg (sps.length - (i + 1))
        case measure => omega
        case rel =>
          refine ⟨i + 1, by go_num, by omega, by omega, fun j hj hji => ?_, below_then hb (by assumption)⟩
          by_cases e : j = i
          · subst e; rw [HX.out]; exact HQ.out
          · exact hno.out j hj (by omega)
    · have hz : ¬ (i : Int) < (sps.length : Int) := by omega
      have HA := Lib.hid (show (sps.any fun s => decide (s.1 ≤ r) && decide (r ≤ s.2)) = false from any_of_miss fun j hj => hno.out j hj (by omega))
      go_wp2
      go_ret
      exact ⟨-1, rfl, by rw [HA.out]; simp, hb⟩

theorem containsFunc_span (sps : List (Nat × Nat)) (r : Nat) (va : Option Addr) (vc : Nat) (B base : Nat) (w : World) (hss : sps.length ≤ 9223372036854775807)
    (hB : w.cell? ⟨B, 0, none⟩ = some (.int .i32 (r : Int))) (hm : w.ownsRow base 109 2 (.slice va sps.length vc) sps.length (spanCells sps)) :
    Calls Tryd.prog 101 #[.slice va sps.length vc, .func (.func 102) #[] #[.pointer (some ⟨B, 0, none⟩)]] w fun e w' => e = .returned (.bool (sps.any fun s => decide (s.1 ≤ r) && decide (r ≤ s.2))) ∧ Below w.heap.size w w' := by
  have hI := indexFunc_span sps r va vc B base w hss hB hm
  clear hm hB
  go_enter Tryd.func101, Tryd.ntmps101
  go_wp2_with (go_at_call 105; refine hI.mono ?_; rintro e w' ⟨r, rfl, hq, hb⟩)
  go_ret
  exact ⟨rfl, by assumption⟩

/-- admits. -/
theorem admits_any (x : Pn.Item) (r : Nat) (va : Option Addr) (vc base : Nat) (w : World) (hss : x.spans.length ≤ 9223372036854775807) (hm : w.ownsRow base 109 2 (.slice va x.spans.length vc) x.spans.length (spanCells x.spans)) :
    Calls Tryd.prog 93 #[.agg #[.bool x.star, .bool x.neg, .slice va x.spans.length vc], .int .i32 (r : Int)] w fun e w' => e = .returned (.bool (Pn.admitsP x r)) ∧ Below w.heap.size w w' := by
  have hb2 : Below w.heap.size w ((w.alloc (.cells #[.bool x.star, .bool x.neg, .slice va x.spans.length vc] 106)).alloc (.cells #[.int .i32 (r : Int)] 21)) := ((Below.refl _ w).alloc (Nat.le_refl _) _).alloc (by simp) _
  have hC := containsFunc_span x.spans r va vc (w.heap.size + 1) base ((w.alloc (.cells #[.bool x.star, .bool x.neg, .slice va x.spans.length vc] 106)).alloc (.cells #[.int .i32 (r : Int)] 21)) hss
    (by rw [cell_of_block' (two_new _ _).2 0]; rfl) (hm.kept (grown_below hb2 none) (by cases (Value.slice va x.spans.length vc).ownBlock <;> simp))
  have htn := (two_new (w := w) (.cells #[.bool x.star, .bool x.neg, .slice va x.spans.length vc] 106) (.cells #[.int .i32 (r : Int)] 21)).1
  unfold Pn.admitsP
  generalize (x.spans.any fun s => decide (s.1 ≤ r) && decide (r ≤ s.2)) = q at *
  have hC := Lib.hid hC
  have HTN := Lib.hid htn
  clear hm htn
  go_enter Tryd.func93, Tryd.ntmps93
  go_wp2_with fail
  refine hC.out.mono ?_
  rintro e w1 ⟨rfl, hb⟩
  have hc1 : w1.cell? ⟨w.heap.size, 1, none⟩ = some (.bool x.neg) := by
    rw [hb.cell (p := ⟨w.heap.size, 1, none⟩) (by simp; omega), cell_of_block' HTN.out 1]; rfl
  go_wp2_with fail
  go_ret
  exact ⟨rfl, below_then hb2 hb⟩

end Go.Proofs.YtdnbmkfmckppaaaDoor
