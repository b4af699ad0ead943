/-
  slices.Backward over rules: its contract for a range over it. (Turned from the worked text on slices.All.)
-/
import Derived.Test.YtdnbmkfmckppaaaDoorRulesF
import Derived.RangeFuncNested
import Derived.RangeFuncBound
import Derived.RangeFuncCalls
import Derived.RangeFuncLeaves
import Derived.Shelf.Abstract
import Derived.Shelf.RegionOpen
import Derived.WalkKit
import Derived.OwnWalkIn
import Derived.TacticsInMore
import Derived.LoopNIn
import Derived.LoopIn
namespace Go.Proofs.YtdnbmkfmckppaaaDoor
open Go.RowKit Go.Lib Go.Shelf

attribute [local go_sem] Oper.semAt_some

/-- A valid rule. -/
abbrev Rl := { x : Pn.Rule // x.pattern.length < 4294967281 ∧ x.validP = true }
theorem rl_one : (Pn.Rule.mk [97] false false false).validP = true := by decide +kernel
def rl0 : Rl := ⟨⟨[97], false, false, false⟩, by simp, rl_one⟩

def upto {α : Type} (f : Nat → α) (k : Nat) : List α := (List.range k).map f
theorem upto_succ {α : Type} (f : Nat → α) (k : Nat) : upto f (k + 1) = upto f k ++ [f k] := by simp [upto, List.range_succ]
theorem upto_length {α : Type} (f : Nat → α) (k : Nat) : (upto f k).length = k := by simp [upto]

/-- What comes at the round number k, of the rules l: index and rule, from the end. -/
def backAt (l : List Rl) (k : Nat) : Nat × Rl := (l.length - 1 - k, l.getD (l.length - 1 - k) rl0)

abbrev rls (l : List Rl) : List Pn.Rule := l.map Subtype.val

theorem backward_any (a : Option Addr) (n c : Nat) (w : World) :
    Calls Tryd.prog 64 #[.slice a n c] w fun e w' => e = .returned (.func (.func 81) #[] #[.pointer (some ⟨w.heap.size, 0, none⟩)]) ∧ w' = w.alloc (.cells #[.slice a n c] 29) := by
  go_enter Tryd.func64, Tryd.ntmps64
  go_wp2
  go_ret
  exact ⟨rfl, rfl⟩

set_option maxRecDepth 100000 in
set_option maxHeartbeats 2000000 in
theorem backward1_in (F : Fence) (n : Nat) (h8 : F.fn 81) (hro : F.round = none) (hn : 1 ≤ n) (l Bs n₀ : Nat) (va : Option Addr) (vc : Nat) (rs : List Rl) (hlen : rs.length < 4294967281) (J Jx : List (Nat × Rl) → World → Prop)
    (hY : ∀ pre x W, J pre W → pre.length < rs.length → YieldAt F (n - 1) Tryd.prog l #[.int .i64 (x.1 : Int), ruleV x.2.val] W fun e W' =>
      (e = .returned (.bool true) ∧ J (pre ++ [x]) W' ∧ Below n₀ W W') ∨ (e = .returned (.bool false) ∧ Jx (pre ++ [x]) W'))
    (W : World) (hBs : W.cell? ⟨Bs, 0, none⟩ = some (.slice va rs.length vc)) (hBn : Bs < n₀) (hr : rs = [] ∨ ∃ g, va = some ⟨g, 0, none⟩ ∧ g < n₀ ∧ RowAt W g 0 (ruleCells (rls rs))) (h0 : J [] W) :
    CallsIn F n Tryd.prog 81 #[.func (.yield l) #[] #[], .pointer (some ⟨Bs, 0, none⟩)] W fun e W' => (∃ v, e = .returned v) ∧
      ((∃ ys, ys = upto (backAt rs) rs.length ∧ J ys W') ∨ (∃ pre, (∃ k, k ≤ rs.length ∧ pre = upto (backAt rs) k) ∧ Jx pre W')) := by
  have HR := Lib.hid hr
  clear hr
  refine callsIn_of_wp Tryd.func81 rfl h8 ?_ hro
  simp only [Tryd.ntmps81, List.size_toArray, List.length_cons, List.length_nil, Nat.reduceAdd, Nat.reduceSub, Array.replicate_succ, Array.replicate_zero, List.push_toArray, List.append_toArray, List.nil_append, List.cons_append]
  gi_wp2
  gi_loopw [3] (fun i wr => ∃ k : Nat, k ≤ rs.length ∧ i = .int .i64 ((rs.length : Int) - 1 - (k : Int)) ∧ J (upto (backAt rs) k) wr ∧ Below n₀ W wr)
    (fun i _ => (RowKit.intOf i + 1).toNat)
  case atStart => exact ⟨0, Nat.zero_le _, by simp, h0, Below.refl _ _⟩
  case round =>
    obtain ⟨k, hk, rfl, hJs, hnx⟩ := hrel
    have hBs' := (hnx.cell (p := ⟨Bs, 0, none⟩) hBn).trans hBs
    by_cases hlt : k < rs.length
    · have hz : (0 : Int) ≤ (rs.length : Int) - 1 - (k : Int) := by omega
      have hz2 : (rs.length : Int) - 1 - (k : Int) < (rs.length : Int) := by omega
      obtain ⟨i, hi⟩ : ∃ i : Nat, i = rs.length - 1 - k := ⟨_, rfl⟩
      have hiz : (rs.length : Int) - 1 - (k : Int) = (i : Int) := by omega
      obtain ⟨g, rfl, hg0, hrow⟩ : ∃ g, va = some ⟨g, 0, none⟩ ∧ g < n₀ ∧ RowAt W g 0 (ruleCells (rls rs)) := by
        rcases HR.out with h | h
        · subst h; simp at hlt
        · exact h
      have hil : i < rs.length := by omega
      have hx : backAt rs k = (i, rs[i]) := by unfold backAt; rw [← hi]; simp [List.getD, hil]
      obtain ⟨g', hg', _, r0, r1, r2, r3⟩ := RulesAt.get (vc := vc) (l := rls rs) (w := W) (.inr ⟨g, rfl, World.block_lt_of_cell? W _ (hrow 0 (by rw [ruleCells_len]; simp; omega)), hrow⟩) (i := i) (by simpa using hil)
      injection hg' with hg'; injection hg' with hg'; subst hg'
      simp only [List.getElem_map] at r0 r1 r2 r3
      obtain ⟨fn, tmps, assign, body, hy, hR⟩ := hY _ (backAt rs k) wr hJs (by rw [upto_length]; exact hlt)
      rw [hx] at hy hR
      generalize rs[i] = x at *
      dsimp only at hy
      have c0 := (hnx.cell (p := ⟨g, i * 4, none⟩) hg0).trans r0
      have c1 := (hnx.cell (p := ⟨g, i * 4 + 1, none⟩) hg0).trans r1
      have c2 := (hnx.cell (p := ⟨g, i * 4 + 2, none⟩) hg0).trans r2
      have c3 := (hnx.cell (p := ⟨g, i * 4 + 3, none⟩) hg0).trans r3
      have hnz : (0 : Int) ≤ (i : Int) := by omega
      have hilz : (i : Int) < (rs.length : Int) := by omega
      have HI := Lib.hid hi
      clear hz hz2 hi
      rw [hiz]
      gi_wp2
      refine hR.mono ?_
      rintro e W3 (⟨rfl, hJ3, hk3⟩ | ⟨rfl, hJx3⟩)
      · gi_wp2
        go_roundw
        case rel => exact ⟨k + 1, by omega, by go_num, by rw [upto_succ, hx]; exact hJ3, hnx.trans hk3⟩
        case measure => have := HI.out; simp [RowKit.intOf] <;> omega
      · gi_wp2
        refine bodyPost_ret (results_none rfl _ _ _) rfl ?_
        exact ⟨⟨_, rfl⟩, .inr ⟨_, ⟨k + 1, by omega, by rw [upto_succ, hx]⟩, hJx3⟩⟩
    · obtain rfl : k = rs.length := by omega
      have hz : ¬ (0 : Int) ≤ (rs.length : Int) - 1 - (rs.length : Int) := by omega
      gi_wp2
      go_end0
      exact ⟨⟨_, rfl⟩, .inl hJs⟩

/-- The value that Backward hands back, as a range's iterator. -/
theorem backward_stops (F : Fence) (n : Nat) (h8 : F.fn 81) (hro : F.round = none) (hn : 1 ≤ n) (Bs n₀ : Nat) (va : Option Addr) (vc : Nat) (rs : List Rl) (hlen : rs.length < 4294967281) (w : World) (hBs : Bs < n₀) (hn₀ : n₀ ≤ w.heap.size)
    (hc : w.cell? ⟨Bs, 0, none⟩ = some (.slice va rs.length vc)) (hr : rs = [] ∨ ∃ g, va = some ⟨g, 0, none⟩ ∧ g < n₀ ∧ RowAt w g 0 (ruleCells (rls rs))) :
    SeqStopsK F n Tryd.prog 81 #[.pointer (some ⟨Bs, 0, none⟩)] (fun x : Nat × Rl => #[Value.int .i64 (x.1 : Int), ruleV x.2.val]) (Below n₀) (fun ys => ys = upto (backAt rs) rs.length)
      (fun pre => ∃ k, k ≤ rs.length ∧ pre = upto (backAt rs) k) rs.length w := fun l J Jx W hW _ _ hY h0 => by
  refine backward1_in F n h8 hro hn l Bs n₀ va vc rs hlen J Jx hY W ((hW.cell (p := ⟨Bs, 0, none⟩) (Nat.lt_of_lt_of_le hBs hn₀)).trans hc) hBs ?_ h0
  rcases hr with h | ⟨g, h1, h2, h3⟩
  · exact .inl h
  · exact .inr ⟨g, h1, h2, h3.below hW (Nat.lt_of_lt_of_le h2 hn₀)⟩

end Go.Proofs.YtdnbmkfmckppaaaDoor
