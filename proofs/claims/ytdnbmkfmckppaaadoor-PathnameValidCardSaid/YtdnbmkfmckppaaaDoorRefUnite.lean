/-
  The walks of kinkeepref18.Unite and kinkeeplaw18.same.
-/
import Derived.Test.YtdnbmkfmckppaaaDoorStrs
import Derived.Test.YtdnbmkfmckppaaaDoorLiteral
import Derived.Test.YtdnbmkfmckppaaaDoorJoinS
import Derived.Test.YtdnbmkfmckppaaaDoorLawRejoins
import Derived.BigQuiet
namespace Go.Proofs.YtdnbmkfmckppaaaDoor
open Go.RowKit Go.Lib

theorem weight_take (l : List Pn.B) (k : Nat) : weight (l.take k) ≤ weight l := by
  have h : weight l = weight (l.take k) + weight (l.drop k) := by
    unfold weight
    rw [← List.sum_append, ← List.map_append, List.take_append_drop]
  omega

theorem weight_mem {l : List Pn.B} {p : Pn.B} (h : p ∈ l) : p.length ≤ weight l := by
  obtain ⟨a, b, rfl⟩ := List.append_of_mem h
  simp [weight]; omega

theorem len_weight (l : List Pn.B) : l.length ≤ weight l := by
  induction l with
  | nil => simp
  | cons p r ih => simp only [weight, List.map_cons, List.sum_cons, List.length_cons] at ih ⊢; omega

theorem join_next {l : List Pn.B} {i : Nat} (h : i < l.length) (h0 : i ≠ 0) : Pn.joinS 47 (l.take (i + 1)) = Pn.joinS 47 (l.take i) ++ 47 :: l[i] := by
  rw [List.take_succ_eq_append_getElem h, join_snoc]
  intro e
  have := congrArg List.length e
  rw [List.length_take, List.length_nil] at this
  omega

set_option maxHeartbeats 1000000 in
set_option maxRecDepth 100000 in
theorem unite_any (l : List Pn.B) (va : Option Addr) (vc : Nat) (w : World) (hr : StrsAt w va l) (hw : weight l ≤ 4294967290) :
    Calls Tryd.prog 21 #[.slice va l.length vc] w fun e w' => e = .returned (S (Pn.joinS 47 l)) ∧ Below w.heap.size w w' := by
  have HR := Lib.hid hr
  have hlw := len_weight l
  clear hr
  go_enter Tryd.func21, Tryd.ntmps21
  go_wp2_with fail
  go_loopg [3, 4, 5, 8] l.length (fun gg out _ _ iv wr => ∃ i : Nat, iv = .int .i64 i ∧ i ≤ l.length ∧ l.length - i ≤ gg ∧ out = S (Pn.joinS 47 (l.take i)) ∧ wr = w)
  case atStart => exact ⟨0, rfl, Nat.zero_le _, by omega, rfl, rfl⟩
  case round =>
    obtain ⟨i, rfl, hi, hgg, rfl, rfl⟩ := hrel
    by_cases hl : i < l.length
    · have hlz : (i : Int) < (l.length : Int) := by omega
      obtain ⟨g, rfl, hcell⟩ := HR.out.get hl
      obtain ⟨p, hp⟩ : ∃ p, l[i] = p := ⟨_, rfl⟩
      have hpl : p.length ≤ weight l := by rw [← hp]; exact weight_mem (List.getElem_mem hl)
      have hjl := Nat.le_trans (joinS_len 47 (l.take i)) (weight_take l i)
      rw [hp] at hcell
      by_cases h0 : i = 0
      · subst h0
        have hj : Pn.joinS 47 (l.take 1) = p := by
          rw [show 1 = 0 + 1 from rfl, List.take_succ_eq_append_getElem hl, hp]; rfl
        have hz : ¬ (0 : Int) < ((0 : Nat) : Int) := by omega
        have HJ := Lib.hid hj
        have hsum : ¬ 9223372036854775807 < 0 + p.length := by omega
        have hsum2 : ¬ 9223372036854775807 < p.length := by omega
        clear hj hp
        go_wp2_with fail
        go_roundg (l.length - 1)
        case measure => omega
        case rel =>
          refine ⟨0 + 1, by go_num, by omega, by omega, ?_, rfl⟩
          rw [HJ.out]
          congr 1
      · have hj := join_next hl h0
        have hz : (0 : Int) < (i : Int) := by omega
        rw [hp] at hj
        have HJ := Lib.hid hj
        generalize Pn.joinS 47 (l.take i) = o at *
        have hsum : ¬ 9223372036854775807 < o.length + 1 := by omega
        have hsum2 : ¬ 9223372036854775807 < o.length + 1 + p.length := by omega
        clear hj hp
        go_wp2_with fail
        go_roundg (l.length - (i + 1))
        case measure => omega
        case rel =>
          refine ⟨i + 1, by go_num, by omega, Nat.le_refl _, ?_, rfl⟩
          rw [HJ.out]
          congr 1
          ext1
          simp [ByteArray.data_append]
    · have hlz : ¬ (i : Int) < (l.length : Int) := by omega
      have ht : l.take i = l := List.take_of_length_le (by omega)
      rw [ht]
      go_wp2_with fail
      go_ret
      exact ⟨rfl, Below.refl _ _⟩

set_option maxHeartbeats 1000000 in
set_option maxRecDepth 100000 in
/-- same, at two slices that hold the same strings. -/
theorem same_any (l : List Pn.B) (va vb : Option Addr) (vc vd : Nat) (w : World) (hlen : l.length ≤ 4294967290) (h1 : StrsAt w va l) (h2 : StrsAt w vb l) :
    Calls Tryd.prog 20 #[.slice va l.length vc, .slice vb l.length vd] w fun e w' => e = .returned (.bool true) ∧ Below w.heap.size w w' := by
  have H1 := Lib.hid h1
  have H2 := Lib.hid h2
  clear h1 h2
  have hnn : ((l.length : Int) == (l.length : Int)) = true := by simp
  go_enter Tryd.func20, Tryd.ntmps20
  go_wp2_with fail
  go_loopg [5, 13] l.length (fun gg _ iv wr => ∃ i : Nat, iv = .int .i64 i ∧ i ≤ l.length ∧ l.length - i ≤ gg ∧ ∃ n, wr = w.drewN n)
  case atStart => exact ⟨0, rfl, Nat.zero_le _, by omega, 0, rfl⟩
  case round =>
    obtain ⟨i, rfl, hi, hgg, n, rfl⟩ := hrel
    by_cases hl : i < l.length
    · have hlz : (i : Int) < (l.length : Int) := by omega
      obtain ⟨g, rfl, c1⟩ := H1.out.get hl
      obtain ⟨g2, rfl, c2⟩ := H2.out.get hl
      obtain ⟨p, hp⟩ : ∃ p, l[i] = p := ⟨_, rfl⟩
      rw [hp] at c1 c2
      clear hp
      have hpp : (p == p) = true := by simp
      go_wp2_with fail
      go_quiet (fail)
      go_wp2_with fail
      go_roundg (l.length - (i + 1))
      case measure => omega
      case rel => exact ⟨i + 1, by go_num, by omega, Nat.le_refl _, by first | exact ⟨_, rfl⟩ | exact ⟨_, World.drewN_drewN _ _ _⟩⟩
    · have hlz : ¬ (i : Int) < (l.length : Int) := by omega
      go_wp2_with fail
      go_ret
      exact ⟨rfl, below_drewN (Below.refl _ _) n⟩

end Go.Proofs.YtdnbmkfmckppaaaDoor
