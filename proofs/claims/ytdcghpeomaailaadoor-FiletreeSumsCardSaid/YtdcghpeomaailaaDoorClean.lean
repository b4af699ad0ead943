/-
  The walk of pathname.clean.
-/
import Derived.Test.YtdcghpeomaailaaDoorBase
import Derived.Test.YtdcghpeomaailaaDoorShelf
import Derived.Test.YtdcghpeomaailaaDoorPureU
namespace Go.Proofs.YtdcghpeomaailaaDoor
open Go.RowKit Go.Lib

theorem width_pos (s : ByteArray) (pos : Nat) (h : pos < s.size) : 1 ≤ (Utf8.decode s pos).2 := by
  by_cases ha : (s[pos]'h).toNat < 128
  · rw [decode_ascii s pos h ha]
    exact Nat.le_refl _
  · exact (decode_high s pos h (by omega)).2

/-- Whether no rune from pos on is below 32. -/
def okGo (s : ByteArray) : Nat → Nat → Bool
  | 0, _ => true
  | b + 1, pos => if pos < s.size then (if (Utf8.decode s pos).1 < 32 then false else okGo s b (pos + (Utf8.decode s pos).2)) else true
theorem okGo_end (s : ByteArray) (b pos : Nat) (h : ¬ pos < s.size) : okGo s b pos = true := by
  cases b <;> simp [okGo, h]

set_option maxHeartbeats 400000 in
set_option maxRecDepth 1000000 in
theorem clean_walk (s : ByteArray) (w : World) (hs : s.size ≤ 9223372036854775807) (hE : Env w) :
    Calls Tryd.prog 66 #[.string s] w fun e w' => e = .returned (.bool (okGo s s.size 0 && Lib.validD s.data.toList)) ∧ Below w.heap.size w w' := by
  go_enter Tryd.func66, Tryd.ntmps66
  go_wp2
  go_loopw [4] (fun _ w' => ∃ (pos b : Nat), w' = w.iter s pos ∧ okGo s b pos = okGo s s.size 0 ∧ s.size ≤ pos + b) (fun _ w' => s.size - w'.iterPos w.heap.size)
  case atStart => exact ⟨0, s.size, rfl, rfl, by omega⟩
  case round =>
    obtain ⟨pos, b, rfl, hc, hb⟩ := hrel
    have Hc := Lib.hid hc
    clear hc
    by_cases hp : pos < s.size
    · have hnx : ∀ ty, (Instr.next (.pointer (some ⟨w.heap.size, 0, none⟩)) true ty).run Tryd.prog (w.iter s pos) = _ := fun ty => run_next_any w s pos ty hp
      go_wp2
      · rename_i hlt
        go_ret
        refine ⟨?_, (Below.refl _ w).alloc (Nat.le_refl _) _⟩
        have hf : okGo s s.size 0 = false := by
          rw [← Hc.out]
          cases b with
          | zero => omega
          | succ b => simp only [okGo, if_pos hp]; rw [if_pos (by omega)]
        rw [hf]; rfl
      · rename_i hge
        go_roundw
        case rel =>
          cases b with
          | zero => omega
          | succ b =>
            refine ⟨_, b, rfl, ?_, by have := width_pos s pos hp; omega⟩
            rw [← Hc.out]
            simp only [okGo, if_pos hp]; rw [if_neg (by omega)]
        case measure =>
          have := width_pos s pos hp
          simp
          omega
    · have hnx : ∀ ty, (Instr.next (.pointer (some ⟨w.heap.size, 0, none⟩)) true ty).run Tryd.prog (w.iter s pos) = _ := fun ty => run_next_end w s pos ty hp
      have hT : okGo s s.size 0 = true := by rw [← Hc.out]; exact okGo_end _ _ _ hp
      have HT := Lib.hid hT; clear hT
      go_wp2_with (go_at_call 83; refine (Tryd.utf8_ValidString s _ hs (hE.below ((Below.refl _ w).alloc (Nat.le_refl _) _)).tabs).mono ?_; rintro e w' ⟨rfl, hb⟩)
      go_ret
      exact ⟨by rw [HT.out]; rfl, below_then ((Below.refl _ w).alloc (Nat.le_refl _) _) hb⟩

theorem okGo_list (s : ByteArray) : ∀ (b pos : Nat), okGo s b pos = Pn.okL b (s.data.toList.drop pos)
  | 0, _ => rfl
  | b + 1, pos => by
    unfold okGo Pn.okL
    by_cases h : pos < s.size
    · have hne : s.data.toList.drop pos ≠ [] := by
        intro e; have := congrArg List.length e; rw [List.length_drop, ← size_eq] at this; simp at this; omega
      rw [if_pos h, if_neg hne, decodeL_drop, okGo_list s b, List.drop_drop]
    · rw [if_neg h, if_pos (List.drop_eq_nil_of_le (by rw [← size_eq]; omega))]

/-- clean: no byte below 32, and valid UTF-8. -/
theorem clean_any (s : ByteArray) (w : World) (hs : s.size < 4294967281) (hE : Env w) :
    Calls Tryd.prog 66 #[.string s] w fun e w' => e = .returned (.bool (Pn.cleanP s.data.toList)) ∧ Below w.heap.size w w' := by
  have h := clean_walk s w
  have e : (okGo s s.size 0 && validD s.data.toList) = Pn.cleanP s.data.toList := by
    rw [okGo_list, List.drop_zero, ← Pn.cleanP_eq, size_eq]
  rw [e] at h
  exact h (by omega) hE

end Go.Proofs.YtdcghpeomaailaaDoor
