/-
  The walks of kinkeepref18.UTF8, plain and Component.
-/
import Derived.Test.YtdnbmkfmckppaaaDoorLawText
import Derived.Test.YtdnbmkfmckppaaaDoorClean
import Derived.Test.YtdnbmkfmckppaaaDoorLiteral
import Derived.Stop.FmtQuoteTie
namespace Go.Proofs.YtdnbmkfmckppaaaDoor
open Go.RowKit Go.Lib

/-- A text's runes, encoded again. -/
def recode : Nat → Pn.B → Pn.B
  | 0, _ => []
  | n + 1, l => if l = [] then [] else encodeRune ((decodeL l).1 : Int) ++ recode n (l.drop (decodeL l).2)

theorem recode_nil (n : Nat) : recode n [] = [] := by cases n <;> simp [recode]

theorem encode_ascii (b : UInt8) (h : b.toNat < 128) : encodeRune ((b.toNat : Nat) : Int) = [b] := by
  unfold encodeRune
  rw [encodeRuneZ_one (by omega) (by omega)]
  simp

theorem recode_cases : ∀ (n : Nat) (l : Pn.B), l.length ≤ n → (validD l = true ∧ recode n l = l) ∨ (validD l = false ∧ l.length < (recode n l).length) := by
  intro n
  induction n with
  | zero => intro l hl; obtain rfl : l = [] := List.length_eq_zero_iff.1 (by omega); exact .inl ⟨rfl, rfl⟩
  | succ n ih =>
    intro l hl
    by_cases hne : l = []
    · subst hne; exact .inl ⟨rfl, recode_nil _⟩
    · rw [recode, if_neg hne, validD_step l hne]
      have hw := decodeL_width l
      have hle := decodeL_le l hne
      have hd := ih (l.drop (decodeL l).2) (by rw [List.length_drop]; omega)
      rcases Pn.decode_step l hne with h | ⟨b, t, rfl, hb, h⟩ | ⟨h1, h2, h3, h4, h5, h6⟩
      · right
        rw [h] at hd ⊢
        refine ⟨by simp, ?_⟩
        have he : (encodeRune ((65533 : Nat) : Int)).length = 3 := by decide
        rw [List.length_append, he]
        have : l.length = (l.drop 1).length + 1 := by
          have := List.length_pos_iff.2 hne
          rw [List.length_drop]; omega
        rcases hd with ⟨_, h7⟩ | ⟨_, h7⟩
        · simp only at h7 ⊢; rw [h7]; omega
        · simp only at h7 ⊢; omega
      · rw [h] at hd ⊢
        simp only [List.drop_succ_cons, List.drop_zero] at hd ⊢
        rw [if_neg (by omega), encode_ascii b hb]
        rcases hd with ⟨h7, h8⟩ | ⟨h7, h8⟩
        · exact .inl ⟨h7, by rw [h8]; rfl⟩
        · exact .inr ⟨h7, by simp; omega⟩
      · rw [if_neg h1, h5]
        rcases hd with ⟨h7, h8⟩ | ⟨h7, h8⟩
        · exact .inl ⟨h7, by rw [h8, List.take_append_drop]⟩
        · refine .inr ⟨h7, ?_⟩
          rw [List.length_append, List.length_take]
          rw [List.length_drop] at h8
          omega

theorem recode_valid (l : Pn.B) : (recode l.length l == l) = validD l := by
  rcases recode_cases l.length l (Nat.le_refl _) with ⟨h1, h2⟩ | ⟨h1, h2⟩
  · rw [h1, h2]; simp
  · rw [h1, beq_eq_false_iff_ne]
    intro e
    rw [e] at h2; omega

theorem byte_back (b : UInt8) : (((b.toNat : Int)).toNat).toUInt8 = b := by
  rw [Int.toNat_natCast]
  exact UInt8.ofNat_toNat
theorem bytes_back (l : List UInt8) : (Go.Extern.FmtText.nums l).map (fun x : Int => x.toNat.toUInt8) = l := by
  unfold Go.Extern.FmtText.nums
  rw [List.map_map]
  conv => rhs; rw [← List.map_id l]
  apply List.map_congr_left
  intro b _
  exact byte_back b
theorem encode_bytes (r : Nat) : (Utf8.encode (r : Int)).data.toList = encodeRune (r : Int) := by
  have h := Go.Extern.FmtText.encode_eq r
  unfold encodeRune
  rw [← h, bytes_back]
theorem nxt (w : World) (s : ByteArray) (pos r k : Nat) (hp : pos < s.size) (hd : Utf8.decode s pos = (r, k)) (ty : TypeId) : (Instr.next (.pointer (some ⟨w.heap.size, 0, none⟩)) true ty).run Tryd.prog (w.iter s pos) = .ok (.tuple #[.bool true, .int .i64 (pos : Int), .int .i32 (r : Int)]) (w.iter s (pos + k)) := by
  have h := run_next_any (P := Tryd.prog) w s pos ty hp
  simp only [hd] at h
  exact h
theorem str_add (o p : Pn.B) : (⟨o.toArray⟩ : ByteArray) ++ ⟨p.toArray⟩ = ⟨(o ++ p).toArray⟩ := by
  ext1
  simp [ByteArray.data_append]

theorem encode_arr (r : Nat) : Utf8.encode (r : Int) = ⟨(encodeRune (r : Int)).toArray⟩ := by
  apply ByteArray.ext
  apply Array.ext'
  rw [encode_bytes]

theorem rune_string (r : Nat) (W : World) : (convert 21 9 (.int .i32 (r : Int))).run Tryd.prog W = .ok (S (encodeRune (r : Int))) W := by
  have h := run_convert_int_string (P := Tryd.prog) W 21 9 .i32 (r : Int) (by kernel_rfl) Tryd.underlying9
  rw [encode_arr] at h
  exact h

theorem width_of (s : ByteArray) (pos r k : Nat) (hp : pos < s.size) (hd : Utf8.decode s pos = (r, k)) : 1 ≤ k := by
  have h := width_pos s pos hp
  simp only [hd] at h
  exact h

def Utf8Rel (s : ByteArray) (pos b : Nat) (out : Value) : Prop :=
  ∃ o : Pn.B, out = S o ∧ o.length ≤ 4 * pos ∧ o ++ recode b (s.data.toList.drop pos) = recode s.data.toList.length s.data.toList

set_option maxHeartbeats 400000 in
set_option maxRecDepth 1000000 in
theorem utf8_ref (s : ByteArray) (w : World) (hs : s.size ≤ 4294967281) :
    Calls Tryd.prog 82 #[.string s] w fun e w' => e = .returned (.bool (Lib.validD s.data.toList)) ∧ Below w.heap.size w w' := by
  go_enter Tryd.func82, Tryd.ntmps82
  go_wp2
  go_loopw [3, 5] (fun out _ w' => ∃ (pos b : Nat), w' = w.iter s pos ∧ s.size ≤ pos + b ∧ Utf8Rel s pos b out) (fun _ _ w' => s.size - w'.iterPos w.heap.size)
  case atStart => exact ⟨0, s.size, rfl, by omega, [], rfl, by simp, by rw [size_eq]; rfl⟩
  case round =>
    obtain ⟨pos, b, rfl, hb, o, rfl, hol, ho⟩ := hrel
    have HO := Lib.hid ho
    clear ho
    by_cases hp : pos < s.size
    · rcases hd : Utf8.decode s pos with ⟨r, k⟩
      have hk : 1 ≤ k := width_of s pos r k hp hd
      have hnx := fun ty => nxt w s pos r k hp hd ty
      have hcv := fun W : World => rune_string r W
      have he4 : (encodeRune (r : Int)).length ≤ 4 := by
        unfold encodeRune
        rw [List.length_map]; exact (encodeRuneZ_length _).2
      have hsum : ¬ 9223372036854775807 < o.length + (encodeRune (r : Int)).length := by omega
      have hst : ∃ b', b = b' + 1 ∧ (o ++ encodeRune (r : Int)) ++ recode b' (s.data.toList.drop (pos + k)) = recode s.data.toList.length s.data.toList := by
        cases b with
        | zero => omega
        | succ b =>
          refine ⟨b, rfl, ?_⟩
          have hne : s.data.toList.drop pos ≠ [] := by
            intro e; have := congrArg List.length e; rw [List.length_drop, ← size_eq] at this; simp at this; omega
          have h1 := HO.out
          rw [recode, if_neg hne, decodeL_drop, hd, List.drop_drop] at h1
          rw [List.append_assoc]; exact h1
      obtain ⟨b', rfl, hb2⟩ := hst
      have HB2 := Lib.hid hb2
      have HD := Lib.hid hd
      have H4 := Lib.hid he4
      clear hd hb2 he4
      generalize hen : encodeRune (r : Int) = en at *
      clear hen
      go_wp2_with fail
      go_roundw
      case rel =>
        exact ⟨pos + k, b', rfl, by omega, o ++ en, (by rw [str_add]), by have := H4.out; simp; omega, HB2.out⟩
      case measure =>
        simp
        omega
    · have hnx : ∀ ty, (Instr.next (.pointer (some ⟨w.heap.size, 0, none⟩)) true ty).run Tryd.prog (w.iter s pos) = _ := fun ty => run_next_end w s pos ty hp
      have hfin : o = recode s.data.toList.length s.data.toList := by
        have := HO.out
        rw [List.drop_eq_nil_of_le (by rw [← size_eq]; omega), recode_nil, List.append_nil] at this
        exact this
      have hq : (recode s.size s.data.toList == s.toList) = Lib.validD s.data.toList := by rw [toList_data, size_eq, recode_valid]
      have HF := Lib.hid hfin
      have hq2 : (o == s.toList) = Lib.validD s.data.toList := by rw [hfin, ← size_eq]; exact hq
      clear hfin hq
      go_wp2_with fail
      go_ret
      exact ⟨retb (by first | exact hq2 | rfl), (Below.refl _ w).alloc (Nat.le_refl _) _⟩

/-- plain: no byte below 32, and valid UTF-8. -/
theorem plain_ref (s : ByteArray) (w : World) (hs : s.size ≤ 4294967281) :
    Calls Tryd.prog 66 #[.string s] w fun e w' => e = .returned (.bool (Pn.cleanP s.data.toList)) ∧ Below w.heap.size w w' := by
  have HU := Lib.hid (utf8_ref s w hs)
  go_enter Tryd.func66, Tryd.ntmps66
  go_wp2
  go_loopg [3] s.size (fun gg iv wr => ∃ i : Nat, iv = .int .i64 i ∧ i ≤ s.size ∧ s.size - i ≤ gg ∧ wr = w ∧ Hid (∀ j (h : j < s.data.toList.length), j < i → 32 ≤ (s.data.toList[j]).toNat))
  case atStart => exact ⟨0, rfl, Nat.zero_le _, by omega, rfl, fun _ _ h => absurd h (Nat.not_lt_zero _)⟩
  case round =>
    obtain ⟨i, rfl, hi, hgg, rfl, hall⟩ := hrel
    by_cases hl : i < s.size
    · have hlz : (i : Int) < (s.size : Int) := by omega
      have hl' : i < s.data.toList.length := by rw [← size_eq]; exact hl
      obtain ⟨b, hb⟩ : ∃ b, s.data.toList[i]'hl' = b := ⟨_, rfl⟩
      have e0 : s[i]'hl = b := by rw [← hb]; simp [ByteArray.getElem_eq_getElem_data]
      have HB := Lib.hid hb
      clear hb
      by_cases h32 : b.toNat < 32
      · have hz : (b.toNat : Int) < 32 := by omega
        have hc : Pn.cleanP s.data.toList = false := by
          unfold Pn.cleanP
          have : s.data.toList.all (fun b => decide (32 ≤ b.toNat)) = false := by
            rw [List.all_eq_false]
            exact ⟨b, by rw [← HB.out]; exact List.getElem_mem hl', by simp; omega⟩
          rw [this]; rfl
        have HC := Lib.hid hc
        clear hc
        go_wp2_with fail
        go_ret
        exact ⟨retb HC.out.symm, Below.refl _ _⟩
      · have hz : ¬ (b.toNat : Int) < 32 := by omega
        go_wp2_with fail
        go_roundg (s.size - (i + 1))
        case measure => omega
        case rel =>
          refine ⟨i + 1, by go_num, by omega, Nat.le_refl _, rfl, fun j hj hji => ?_⟩
          by_cases e : j = i
          · subst e; rw [HB.out]; omega
          · exact hall.out j hj (by omega)
    · have hlz : ¬ (i : Int) < (s.size : Int) := by omega
      have hc : Pn.cleanP s.data.toList = Lib.validD s.data.toList := by
        unfold Pn.cleanP
        have : s.data.toList.all (fun b => decide (32 ≤ b.toNat)) = true := by
          rw [List.all_eq_true]
          intro x hx
          obtain ⟨j, hj, rfl⟩ := List.getElem_of_mem hx
          have := hall.out j hj (by rw [← size_eq] at hj; omega)
          simpa using this
        rw [this]; rfl
      have HC := Lib.hid hc
      clear hc
      go_wp2_with fail
      refine HU.out.mono ?_
      rintro e w1 ⟨rfl, hb⟩
      go_wp2_with fail
      go_ret
      exact ⟨retb HC.out.symm, hb⟩

end Go.Proofs.YtdnbmkfmckppaaaDoor
