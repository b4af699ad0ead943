/-
  The walk of kinkeeplaw18.literal.
-/
import Derived.Test.YtdnbmkfmckppaaaDoorLeaf2
import Derived.Laws.IdiomStrings
namespace Go.Proofs.YtdnbmkfmckppaaaDoor
open Go.RowKit Go.Lib

/-- What one byte gives. -/
def litStep (i : Nat) (c : UInt8) : Pn.B := if c = 42 ∨ c = 63 ∨ c = 91 ∨ c = 92 ∨ (i = 0 ∧ (c = 33 ∨ c = 35)) then [92, c] else [c]

theorem literal_step {l : Pn.B} {i : Nat} {c : UInt8} (hi : i < l.length) (hc : l[i] = c) : Pn.literalGo i (l.drop i) = litStep i c ++ Pn.literalGo (i + 1) (l.drop (i + 1)) := by
  rw [List.drop_eq_getElem_cons hi, hc, Pn.literalGo]
  unfold litStep
  split <;> rfl

theorem byte_string (b : UInt8) (W : World) : (convert 56 9 (.slice (some ⟨W.heap.size, 0, none⟩) 1 1)).run Tryd.prog (W.alloc (.cells #[.int .u8 (b.toNat : Int)] 5)) = .ok (.string ⟨#[b]⟩) (W.alloc (.cells #[.int .u8 (b.toNat : Int)] 5)) :=
  run_convert_bytes_back _ _ _ 5 ⟨W.heap.size, 0, none⟩ 1 [b] Tryd.underlying56 Tryd.underlying5 Tryd.underlying9 (fun j hj => by
    obtain rfl : j = 0 := by simp at hj; omega
    have := rowAt_alloc W [.int .u8 (b.toNat : Int)] 5 0 (by simp)
    exact this)

theorem byte_ne {b c : UInt8} (h : b ≠ c) : ((b.toNat : Int) == (c.toNat : Int)) = false := by
  rw [beq_eq_false_iff_ne]
  intro e
  exact h (UInt8.toNat_inj.1 (by omega))

theorem add_str (o p : Pn.B) (W : World) (h : o.length + p.length ≤ 9223372036854775807) : (binOp .add 9 (S o) (S p)).run Tryd.prog W = .ok (S (o ++ p)) W := by
  have h1 := run_string_add_sum (P := Tryd.prog) W ⟨o.toArray⟩ ⟨p.toArray⟩ (by simpa [ByteArray.size] using h)
  have h2 : (⟨o.toArray⟩ : ByteArray) ++ ⟨p.toArray⟩ = ⟨(o ++ p).toArray⟩ := by ext1; simp [ByteArray.data_append]
  rw [h2] at h1
  simp [binOp, h1]

theorem add_str2 (o : Pn.B) (x y : UInt8) (W : World) (h : o.length ≤ 9223372036854775800) : (binOp .add 9 (.string (⟨o.toArray⟩ ++ ⟨#[x]⟩)) (.string ⟨#[y]⟩)).run Tryd.prog W = .ok (S (o ++ [x, y])) W := by
  have h2 : (⟨o.toArray⟩ : ByteArray) ++ ⟨#[x]⟩ = ⟨(o ++ [x]).toArray⟩ := by ext1; simp [ByteArray.data_append]
  have := add_str (o ++ [x]) [y] W (by simp; omega)
  rw [h2]
  rw [List.append_assoc] at this
  exact this

theorem add_cat (o p r : Pn.B) (c : UInt8) (W : World) (hr : o ++ c :: p = r) (h : r.length ≤ 9223372036854775800) : (binOp .add 9 (.string (⟨o.toArray⟩ ++ ⟨#[c]⟩)) (S p)).run Tryd.prog W = .ok (S r) W := by
  have h2 : (⟨o.toArray⟩ : ByteArray) ++ ⟨#[c]⟩ = ⟨(o ++ [c]).toArray⟩ := by ext1; simp [ByteArray.data_append]
  have := add_str (o ++ [c]) p W (by subst hr; simp at h ⊢; omega)
  rw [h2, ← hr]
  rw [List.append_assoc] at this
  exact this

/-- The loop. -/
def LitRel (s : ByteArray) (w : World) (i : Nat) (out : Value) (wr : World) : Prop :=
  ∃ o : Pn.B, out = S o ∧ o.length ≤ 2 * i ∧ o ++ Pn.literalGo i (s.data.toList.drop i) = Pn.literalP s.data.toList ∧ Below w.heap.size w wr

set_option maxHeartbeats 1000000 in
set_option maxRecDepth 100000 in
theorem literal_any (s : ByteArray) (w : World) (hs : s.size < 4294967281) :
    Calls Tryd.prog 13 #[.string s] w fun e w' => e = .returned (S (Pn.literalP s.data.toList)) ∧ Below w.heap.size w w' := by
  go_enter Tryd.func13, Tryd.ntmps13
  go_wp2
  go_loopg [3, 4, 5] s.size (fun gg out iv _ wr => ∃ i : Nat, iv = .int .i64 i ∧ i ≤ s.size ∧ s.size - i ≤ gg ∧ LitRel s w i out wr)
  case atStart => exact ⟨0, rfl, Nat.zero_le _, by omega, [], rfl, Nat.zero_le _, rfl, Below.refl _ _⟩
  case round =>
    obtain ⟨i, rfl, hi, hgg, o, rfl, hol, ho, hB⟩ := hrel
    have HB := Lib.hid hB
    clear hB
    by_cases hl : i < s.size
    · have hlz : (i : Int) < (s.size : Int) := by omega
      obtain ⟨b, hb⟩ : ∃ b, s.data.toList[i]'(by rw [← size_eq]; exact hl) = b := ⟨_, rfl⟩
      have e0 : s[i]'hl = b := by rw [← hb]; simp [ByteArray.getElem_eq_getElem_data]
      rw [literal_step (by rw [← size_eq]; exact hl) hb] at ho
      have HO := Lib.hid ho
      have ADD1 := add_str o [92] wr (by simp; omega)
      clear ho hb
      by_cases h1 : b = 42 ∨ b = 63 ∨ b = 91 ∨ b = 92
      · rcases h1 with rfl | rfl | rfl | rfl
        · have hcv : (convert 56 9 (.slice (some ⟨wr.heap.size, 0, none⟩) 1 1)).run Tryd.prog (wr.alloc (.cells #[.int .u8 42] 5)) = .ok (.string ⟨#[42]⟩) (wr.alloc (.cells #[.int .u8 42] 5)) := byte_string 42 wr
          have ADD2 : (binOp .add 9 (.string (⟨o.toArray⟩ ++ ⟨#[92]⟩)) (.string ⟨#[42]⟩)).run Tryd.prog (wr.alloc (.cells #[.int .u8 42] 5)) = .ok (S (o ++ [92, 42])) (wr.alloc (.cells #[.int .u8 42] 5)) := add_str2 o 92 42 _ (by omega)
          go_wp2_with fail
          go_roundg (s.size - (i + 1))
          case measure => first | omega | (have := hgg0; omega)
          case rel => exact ⟨i + 1, by go_num, by omega, by omega, o ++ [92, 42], (by first | rfl | (congr 1; ext1; simp [ByteArray.data_append])), by simp; omega, by have := HO.out; rw [show litStep i 42 = [92, 42] from by simp [litStep]] at this; rw [← this]; simp, HB.out.alloc HB.out.size _⟩
        · have hcv : (convert 56 9 (.slice (some ⟨wr.heap.size, 0, none⟩) 1 1)).run Tryd.prog (wr.alloc (.cells #[.int .u8 63] 5)) = .ok (.string ⟨#[63]⟩) (wr.alloc (.cells #[.int .u8 63] 5)) := byte_string 63 wr
          have ADD2 : (binOp .add 9 (.string (⟨o.toArray⟩ ++ ⟨#[92]⟩)) (.string ⟨#[63]⟩)).run Tryd.prog (wr.alloc (.cells #[.int .u8 63] 5)) = .ok (S (o ++ [92, 63])) (wr.alloc (.cells #[.int .u8 63] 5)) := add_str2 o 92 63 _ (by omega)
          go_wp2_with fail
          go_roundg (s.size - (i + 1))
          case measure => first | omega | (have := hgg0; omega)
          case rel => exact ⟨i + 1, by go_num, by omega, by omega, o ++ [92, 63], (by first | rfl | (congr 1; ext1; simp [ByteArray.data_append])), by simp; omega, by have := HO.out; rw [show litStep i 63 = [92, 63] from by simp [litStep]] at this; rw [← this]; simp, HB.out.alloc HB.out.size _⟩
        · have hcv : (convert 56 9 (.slice (some ⟨wr.heap.size, 0, none⟩) 1 1)).run Tryd.prog (wr.alloc (.cells #[.int .u8 91] 5)) = .ok (.string ⟨#[91]⟩) (wr.alloc (.cells #[.int .u8 91] 5)) := byte_string 91 wr
          have ADD2 : (binOp .add 9 (.string (⟨o.toArray⟩ ++ ⟨#[92]⟩)) (.string ⟨#[91]⟩)).run Tryd.prog (wr.alloc (.cells #[.int .u8 91] 5)) = .ok (S (o ++ [92, 91])) (wr.alloc (.cells #[.int .u8 91] 5)) := add_str2 o 92 91 _ (by omega)
          go_wp2_with fail
          go_roundg (s.size - (i + 1))
          case measure => first | omega | (have := hgg0; omega)
          case rel => exact ⟨i + 1, by go_num, by omega, by omega, o ++ [92, 91], (by first | rfl | (congr 1; ext1; simp [ByteArray.data_append])), by simp; omega, by have := HO.out; rw [show litStep i 91 = [92, 91] from by simp [litStep]] at this; rw [← this]; simp, HB.out.alloc HB.out.size _⟩
        · have hcv : (convert 56 9 (.slice (some ⟨wr.heap.size, 0, none⟩) 1 1)).run Tryd.prog (wr.alloc (.cells #[.int .u8 92] 5)) = .ok (.string ⟨#[92]⟩) (wr.alloc (.cells #[.int .u8 92] 5)) := byte_string 92 wr
          have ADD2 : (binOp .add 9 (.string (⟨o.toArray⟩ ++ ⟨#[92]⟩)) (.string ⟨#[92]⟩)).run Tryd.prog (wr.alloc (.cells #[.int .u8 92] 5)) = .ok (S (o ++ [92, 92])) (wr.alloc (.cells #[.int .u8 92] 5)) := add_str2 o 92 92 _ (by omega)
          go_wp2_with fail
          go_roundg (s.size - (i + 1))
          case measure => first | omega | (have := hgg0; omega)
          case rel => exact ⟨i + 1, by go_num, by omega, by omega, o ++ [92, 92], (by first | rfl | (congr 1; ext1; simp [ByteArray.data_append])), by simp; omega, by have := HO.out; rw [show litStep i 92 = [92, 92] from by simp [litStep]] at this; rw [← this]; simp, HB.out.alloc HB.out.size _⟩
      · simp only [not_or] at h1
        obtain ⟨g1, g2, g3, g4⟩ := h1
        have n1 : ((b.toNat : Int) == 42) = false := byte_ne g1
        have n2 : ((b.toNat : Int) == 63) = false := byte_ne g2
        have n3 : ((b.toNat : Int) == 91) = false := byte_ne g3
        have n4 : ((b.toNat : Int) == 92) = false := byte_ne g4
        by_cases h0 : i = 0
        · subst h0
          have hgg0 : s.size ≤ gk := hgg
          by_cases h3 : b = 33 ∨ b = 35
          · rcases h3 with rfl | rfl
            · have hcv : (convert 56 9 (.slice (some ⟨wr.heap.size, 0, none⟩) 1 1)).run Tryd.prog (wr.alloc (.cells #[.int .u8 33] 5)) = .ok (.string ⟨#[33]⟩) (wr.alloc (.cells #[.int .u8 33] 5)) := byte_string 33 wr
              have ADD2 : (binOp .add 9 (.string (⟨o.toArray⟩ ++ ⟨#[92]⟩)) (.string ⟨#[33]⟩)).run Tryd.prog (wr.alloc (.cells #[.int .u8 33] 5)) = .ok (S (o ++ [92, 33])) (wr.alloc (.cells #[.int .u8 33] 5)) := add_str2 o 92 33 _ (by omega)
              go_wp2_with fail
              go_roundg (s.size - 1)
              case measure => first | omega | (have := hgg0; omega)
              case rel => exact ⟨0 + 1, by go_num, by omega, by omega, o ++ [92, 33], (by first | rfl | (congr 1; ext1; simp [ByteArray.data_append])), by simp only [List.length_append, List.length_cons, List.length_nil]; omega, by have := HO.out; rw [show litStep 0 33 = [92, 33] from rfl] at this; rw [← this]; simp, HB.out.alloc HB.out.size _⟩
            · have hcv : (convert 56 9 (.slice (some ⟨wr.heap.size, 0, none⟩) 1 1)).run Tryd.prog (wr.alloc (.cells #[.int .u8 35] 5)) = .ok (.string ⟨#[35]⟩) (wr.alloc (.cells #[.int .u8 35] 5)) := byte_string 35 wr
              have ADD2 : (binOp .add 9 (.string (⟨o.toArray⟩ ++ ⟨#[92]⟩)) (.string ⟨#[35]⟩)).run Tryd.prog (wr.alloc (.cells #[.int .u8 35] 5)) = .ok (S (o ++ [92, 35])) (wr.alloc (.cells #[.int .u8 35] 5)) := add_str2 o 92 35 _ (by omega)
              go_wp2_with fail
              go_roundg (s.size - 1)
              case measure => first | omega | (have := hgg0; omega)
              case rel => exact ⟨0 + 1, by go_num, by omega, by omega, o ++ [92, 35], (by first | rfl | (congr 1; ext1; simp [ByteArray.data_append])), by simp only [List.length_append, List.length_cons, List.length_nil]; omega, by have := HO.out; rw [show litStep 0 35 = [92, 35] from rfl] at this; rw [← this]; simp, HB.out.alloc HB.out.size _⟩
          · simp only [not_or] at h3
            have n5 : ((b.toNat : Int) == 33) = false := byte_ne h3.1
            have n6 : ((b.toNat : Int) == 35) = false := byte_ne h3.2
            have hcv := byte_string b wr
            have ADD3 : (binOp .add 9 (S o) (.string ⟨#[b]⟩)).run Tryd.prog (wr.alloc (.cells #[.int .u8 (b.toNat : Int)] 5)) = .ok (S (o ++ [b])) (wr.alloc (.cells #[.int .u8 (b.toNat : Int)] 5)) := add_str o [b] _ (by simp; omega)
            go_wp2_with fail
            go_roundg (s.size - 1)
            case measure => first | omega | (have := hgg0; omega)
            case rel => exact ⟨0 + 1, by go_num, by omega, by omega, o ++ [b], (by first | rfl | (congr 1; ext1; simp [ByteArray.data_append])), by simp only [List.length_append, List.length_cons, List.length_nil]; omega, by have := HO.out; rw [show litStep 0 b = [b] from by simp [litStep, g1, g2, g3, g4, h3.1, h3.2]] at this; rw [← this]; simp, HB.out.alloc HB.out.size _⟩
        · have n0 : ((i : Int) == 0) = false := by rw [beq_eq_false_iff_ne]; omega
          have hcv := byte_string b wr
          have ADD3 : (binOp .add 9 (S o) (.string ⟨#[b]⟩)).run Tryd.prog (wr.alloc (.cells #[.int .u8 (b.toNat : Int)] 5)) = .ok (S (o ++ [b])) (wr.alloc (.cells #[.int .u8 (b.toNat : Int)] 5)) := add_str o [b] _ (by simp; omega)
          go_wp2_with fail
          go_roundg (s.size - (i + 1))
          case measure => first | omega | (have := hgg0; omega)
          case rel => exact ⟨i + 1, by go_num, by omega, by omega, o ++ [b], (by first | rfl | (congr 1; ext1; simp [ByteArray.data_append])), by simp; omega, by have := HO.out; rw [show litStep i b = [b] from by simp [litStep, g1, g2, g3, g4, h0]] at this; rw [← this]; simp, HB.out.alloc HB.out.size _⟩
    · have hlz : ¬ (i : Int) < (s.size : Int) := by omega
      rw [List.drop_of_length_le (by rw [← size_eq]; omega), Pn.literalGo, List.append_nil] at ho
      have HO := Lib.hid ho
      clear ho
      go_wp2
      go_ret
      exact ⟨by rw [HO.out]; rfl, HB.out⟩

end Go.Proofs.YtdnbmkfmckppaaaDoor
