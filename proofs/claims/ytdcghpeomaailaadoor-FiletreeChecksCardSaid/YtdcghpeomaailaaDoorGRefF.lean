import Derived.Test.YtdcghpeomaailaaDoorFtAt
import Derived.Laws.IdiomStrings
import Derived.Lib.Strings
import Derived.Test.YtdcghpeomaailaaDoorLawText
import Derived.Stop.FmtQuoteTie
import Derived.BigQuiet
/-
  Strings in memory; small laws on texts and paths (what ch. 18's Strs, Literal, JoinS, LawRejoins say without layer 18's own functions).
-/
namespace Go.Proofs.YtdcghpeomaailaaDoor
open Go.RowKit Go.Lib

theorem strs_app' {w w2 : World} {base : Nat} {va : Option Addr} {vc : Nat} {l : List Pn.B} (hm : StrsMem w2 base (.slice va l.length vc) l) (hB : Below w.heap.size w w2) (hb : w.heap.size ≤ base) (hb2 : base ≤ w2.heap.size) (x : Pn.B) (hl : l.length + 1 ≤ 4294967290) :
    ∃ va' vc' w5, (Builtin.append_ #[75, 75] 75 #[.slice va l.length vc, .slice (some ⟨w2.heap.size, 0, none⟩) 1 1]).run Tryd.prog (w2.alloc (.cells [S x].toArray 9)) = .ok (.slice va' (l.length + 1) vc') w5 ∧
      StrsMem w5 base (.slice va' (l.length + 1) vc') (l ++ [x]) ∧ Below w.heap.size w w5 := by
  obtain ⟨va', vc', w5, h1, h2, h3, _⟩ := strs_app hm hB hb hb2 x hl
  exact ⟨va', vc', w5, h1, h2, h3⟩

/-- Strings in memory, to be read. -/
def StrsAt (w : World) (va : Option Addr) (l : List Pn.B) : Prop := l = [] ∨ ∃ g, va = some ⟨g, 0, none⟩ ∧ g < w.heap.size ∧ RowAt w g 0 (l.map S)

theorem strsAt_of {w : World} {base : Nat} {va : Option Addr} {vc : Nat} {l : List Pn.B} (h : StrsMem w base (.slice va l.length vc) l) : StrsAt w va l ∧ l.length ≤ vc := by
  rcases own_slice h with ⟨h1, h0, _⟩ | ⟨g, cap, hv, _, hg, h2, _, hrow⟩
  · have := List.length_eq_zero_iff.1 h0
    subst this
    exact ⟨.inl rfl, Nat.zero_le _⟩
  · injection hv with h1 h3 h4
    exact ⟨.inr ⟨g, h1, hg, hrow⟩, by omega⟩

theorem StrsAt.below {w w' : World} {va : Option Addr} {l : List Pn.B} (h : StrsAt w va l) (hb : Below w.heap.size w w') : StrsAt w' va l := by
  rcases h with h | ⟨g, h1, h2, h3⟩
  · exact .inl h
  · exact .inr ⟨g, h1, Nat.lt_of_lt_of_le h2 hb.size, h3.below hb h2⟩

theorem StrsAt.get {w : World} {va : Option Addr} {l : List Pn.B} (h : StrsAt w va l) {i : Nat} (hi : i < l.length) : ∃ g, va = some ⟨g, 0, none⟩ ∧ w.cell? ⟨g, i, none⟩ = some (S l[i]) := by
  rcases h with h | ⟨g, h1, h2, h3⟩
  · subst h; simp at hi
  · refine ⟨g, h1, ?_⟩
    have := h3 i (by simpa using hi)
    rw [Nat.zero_add] at this
    rw [this]; simp

theorem byte_string (b : UInt8) (W : World) : (convert 23 9 (.slice (some ⟨W.heap.size, 0, none⟩) 1 1)).run Tryd.prog (W.alloc (.cells #[.int .u8 (b.toNat : Int)] 5)) = .ok (.string ⟨#[b]⟩) (W.alloc (.cells #[.int .u8 (b.toNat : Int)] 5)) :=
  run_convert_bytes_back _ _ _ 5 ⟨W.heap.size, 0, none⟩ 1 [b] Tryd.underlying23 Tryd.underlying5 Tryd.underlying9 (fun j hj => by
    obtain rfl : j = 0 := by simp at hj; omega
    have := rowAt_alloc W [.int .u8 (b.toNat : Int)] 5 0 (by simp)
    exact this)

theorem byte_ne {b c : UInt8} (h : b ≠ c) : ((b.toNat : Int) == (c.toNat : Int)) = false := by
  rw [beq_eq_false_iff_ne]
  intro e
  exact h (UInt8.toNat_inj.1 (by omega))

theorem add_str (o p : Pn.B) (W : World) (h : o.length + p.length ≤ 9223372036854775807) : (binOp .add 9 (S o) (S p)).run Tryd.prog W = .ok (S (o ++ p)) W := by
  have h1 := run_string_add_sum (P := Tryd.prog) W ⟨o.toArray⟩ ⟨p.toArray⟩ (by simpa [ByteArray.size] using h)
  have h2 : (⟨o.toArray⟩ : ByteArray) ++ ⟨p.toArray⟩ = ⟨(o ++ p).toArray⟩ := by ext1; simp [ByteArray.data_append]
  rw [h2] at h1
  simp [binOp, h1]

theorem add_str2 (o : Pn.B) (x y : UInt8) (W : World) (h : o.length ≤ 9223372036854775800) : (binOp .add 9 (.string (⟨o.toArray⟩ ++ ⟨#[x]⟩)) (.string ⟨#[y]⟩)).run Tryd.prog W = .ok (S (o ++ [x, y])) W := by
  have h2 : (⟨o.toArray⟩ : ByteArray) ++ ⟨#[x]⟩ = ⟨(o ++ [x]).toArray⟩ := by ext1; simp [ByteArray.data_append]
  have := add_str (o ++ [x]) [y] W (by simp; omega)
  rw [h2]
  rw [List.append_assoc] at this
  exact this

theorem add_cat (o p r : Pn.B) (c : UInt8) (W : World) (hr : o ++ c :: p = r) (h : r.length ≤ 9223372036854775800) : (binOp .add 9 (.string (⟨o.toArray⟩ ++ ⟨#[c]⟩)) (S p)).run Tryd.prog W = .ok (S r) W := by
  have h2 : (⟨o.toArray⟩ : ByteArray) ++ ⟨#[c]⟩ = ⟨(o ++ [c]).toArray⟩ := by ext1; simp [ByteArray.data_append]
  have := add_str (o ++ [c]) p W (by subst hr; simp at h ⊢; omega)
  rw [h2, ← hr]
  rw [List.append_assoc] at this
  exact this

def weight (l : List Pn.B) : Nat := (l.map fun p => p.length + 1).sum

theorem joinS_len (c : UInt8) : ∀ l : List Pn.B, (Pn.joinS c l).length ≤ weight l
  | [] => by simp [Pn.joinS, weight]
  | [p] => by simp [Pn.joinS, weight]
  | p :: q :: r => by
    have ih := joinS_len c (q :: r)
    simp only [Pn.joinS, List.length_append, List.length_cons]
    simp only [weight, List.map_cons, List.sum_cons] at ih ⊢
    omega

theorem splitS_weight (c : UInt8) : ∀ l : Pn.B, weight (Pn.splitS c l) = l.length + 1
  | [] => by simp [Pn.splitS, weight]
  | b :: t => by
    have ih := splitS_weight c t
    by_cases hb : b = c
    · subst hb
      have : Pn.splitS b (b :: t) = [] :: Pn.splitS b t := by
        have := Pn.splitS_append b [] t
        rw [List.nil_append] at this
        rw [this, Pn.splitS_none (by simp)]; rfl
      rw [this]
      simp only [weight, List.map_cons, List.sum_cons] at ih ⊢
      rw [ih]; simp; omega
    · obtain ⟨p, r, h1, h2⟩ := Pn.splitS_cons_ne hb t
      rw [h1] at ih
      rw [h2]
      simp only [weight, List.map_cons, List.sum_cons, List.length_cons] at ih ⊢
      omega

theorem join_snoc (c : UInt8) (x : Pn.B) : ∀ (l : List Pn.B), l ≠ [] → Pn.joinS c (l ++ [x]) = Pn.joinS c l ++ c :: x
  | [], h => absurd rfl h
  | [p], _ => rfl
  | p :: q :: r, _ => by
    have := join_snoc c x (q :: r) (by simp)
    simp only [List.cons_append, Pn.joinS] at this ⊢
    rw [this]; simp

theorem join_ne (c : UInt8) : ∀ (l : List Pn.B), l ≠ [] → (∀ p ∈ l, p ≠ []) → Pn.joinS c l ≠ []
  | [], h, _ => absurd rfl h
  | [p], _, h => by simp only [Pn.joinS]; exact h p (by simp)
  | p :: q :: r, _, h => by simp [Pn.joinS]

theorem path_split : ∀ (l : List Pn.B), l ≠ [] → (∀ q ∈ l, (47 : UInt8) ∉ q) → Pn.splitS 47 (Pn.joinS 47 l) = l
  | [], h, _ => absurd rfl h
  | [p], _, h => by simp only [Pn.joinS]; exact Pn.splitS_none (h p (by simp))
  | p :: q :: r, _, h => by
    simp only [Pn.joinS]
    rw [Pn.splitS_append, Pn.splitS_none (h p (by simp)), path_split (q :: r) (by simp) (fun x hx => h x (List.mem_cons_of_mem _ hx))]
    simp

end Go.Proofs.YtdcghpeomaailaaDoor

/-
  The walks of kinkeepref18.UTF8, plain and Component.
-/
namespace Go.Proofs.YtdcghpeomaailaaDoor
open Go.RowKit Go.Lib

/-- A text's runes, encoded again. -/
def recode : Nat → Pn.B → Pn.B
  | 0, _ => []
  | n + 1, l => if l = [] then [] else encodeRune ((decodeL l).1 : Int) ++ recode n (l.drop (decodeL l).2)

theorem recode_nil (n : Nat) : recode n [] = [] := by cases n <;> simp [recode]

theorem encode_ascii (b : UInt8) (h : b.toNat < 128) : encodeRune ((b.toNat : Nat) : Int) = [b] := by
  unfold encodeRune
  rw [encodeRuneZ_one (by omega) (by omega)]
  simp

theorem recode_cases : ∀ (n : Nat) (l : Pn.B), l.length ≤ n → (validD l = true ∧ recode n l = l) ∨ (validD l = false ∧ l.length < (recode n l).length) := by
  intro n
  induction n with
  | zero => intro l hl; obtain rfl : l = [] := List.length_eq_zero_iff.1 (by omega); exact .inl ⟨rfl, rfl⟩
  | succ n ih =>
    intro l hl
    by_cases hne : l = []
    · subst hne; exact .inl ⟨rfl, recode_nil _⟩
    · rw [recode, if_neg hne, validD_step l hne]
      have hw := decodeL_width l
      have hle := decodeL_le l hne
      have hd := ih (l.drop (decodeL l).2) (by rw [List.length_drop]; omega)
      rcases Pn.decode_step l hne with h | ⟨b, t, rfl, hb, h⟩ | ⟨h1, h2, h3, h4, h5, h6⟩
      · right
        rw [h] at hd ⊢
        refine ⟨by simp, ?_⟩
        have he : (encodeRune ((65533 : Nat) : Int)).length = 3 := by decide
        rw [List.length_append, he]
        have : l.length = (l.drop 1).length + 1 := by
          have := List.length_pos_iff.2 hne
          rw [List.length_drop]; omega
        rcases hd with ⟨_, h7⟩ | ⟨_, h7⟩
        · simp only at h7 ⊢; rw [h7]; omega
        · simp only at h7 ⊢; omega
      · rw [h] at hd ⊢
        simp only [List.drop_succ_cons, List.drop_zero] at hd ⊢
        rw [if_neg (by omega), encode_ascii b hb]
        rcases hd with ⟨h7, h8⟩ | ⟨h7, h8⟩
        · exact .inl ⟨h7, by rw [h8]; rfl⟩
        · exact .inr ⟨h7, by simp; omega⟩
      · rw [if_neg h1, h5]
        rcases hd with ⟨h7, h8⟩ | ⟨h7, h8⟩
        · exact .inl ⟨h7, by rw [h8, List.take_append_drop]⟩
        · refine .inr ⟨h7, ?_⟩
          rw [List.length_append, List.length_take]
          rw [List.length_drop] at h8
          omega

theorem recode_valid (l : Pn.B) : (recode l.length l == l) = validD l := by
  rcases recode_cases l.length l (Nat.le_refl _) with ⟨h1, h2⟩ | ⟨h1, h2⟩
  · rw [h1, h2]; simp
  · rw [h1, beq_eq_false_iff_ne]
    intro e
    rw [e] at h2; omega

theorem byte_back (b : UInt8) : (((b.toNat : Int)).toNat).toUInt8 = b := by
  rw [Int.toNat_natCast]
  exact UInt8.ofNat_toNat
theorem bytes_back (l : List UInt8) : (Go.Extern.FmtText.nums l).map (fun x : Int => x.toNat.toUInt8) = l := by
  unfold Go.Extern.FmtText.nums
  rw [List.map_map]
  conv => rhs; rw [← List.map_id l]
  apply List.map_congr_left
  intro b _
  exact byte_back b
theorem encode_bytes (r : Nat) : (Utf8.encode (r : Int)).data.toList = encodeRune (r : Int) := by
  have h := Go.Extern.FmtText.encode_eq r
  unfold encodeRune
  rw [← h, bytes_back]
theorem nxt (w : World) (s : ByteArray) (pos r k : Nat) (hp : pos < s.size) (hd : Utf8.decode s pos = (r, k)) (ty : TypeId) : (Instr.next (.pointer (some ⟨w.heap.size, 0, none⟩)) true ty).run Tryd.prog (w.iter s pos) = .ok (.tuple #[.bool true, .int .i64 (pos : Int), .int .i32 (r : Int)]) (w.iter s (pos + k)) := by
  have h := run_next_any (P := Tryd.prog) w s pos ty hp
  simp only [hd] at h
  exact h
theorem str_add (o p : Pn.B) : (⟨o.toArray⟩ : ByteArray) ++ ⟨p.toArray⟩ = ⟨(o ++ p).toArray⟩ := by
  ext1
  simp [ByteArray.data_append]

theorem encode_arr (r : Nat) : Utf8.encode (r : Int) = ⟨(encodeRune (r : Int)).toArray⟩ := by
  apply ByteArray.ext
  apply Array.ext'
  rw [encode_bytes]

theorem rune_string (r : Nat) (W : World) : (convert 21 9 (.int .i32 (r : Int))).run Tryd.prog W = .ok (S (encodeRune (r : Int))) W := by
  have h := run_convert_int_string (P := Tryd.prog) W 21 9 .i32 (r : Int) (by kernel_rfl) Tryd.underlying9
  rw [encode_arr] at h
  exact h

theorem width_of (s : ByteArray) (pos r k : Nat) (hp : pos < s.size) (hd : Utf8.decode s pos = (r, k)) : 1 ≤ k := by
  have h := width_pos s pos hp
  simp only [hd] at h
  exact h

def Utf8Rel (s : ByteArray) (pos b : Nat) (out : Value) : Prop :=
  ∃ o : Pn.B, out = S o ∧ o.length ≤ 4 * pos ∧ o ++ recode b (s.data.toList.drop pos) = recode s.data.toList.length s.data.toList

set_option maxHeartbeats 400000 in
set_option maxRecDepth 1000000 in
theorem utf8_ref (s : ByteArray) (w : World) (hs : s.size ≤ 4294967281) :
    Calls Tryd.prog 112 #[.string s] w fun e w' => e = .returned (.bool (Lib.validD s.data.toList)) ∧ Below w.heap.size w w' := by
  go_enter Tryd.func112, Tryd.ntmps112
  go_wp2
  go_loopw [3, 5] (fun out _ w' => ∃ (pos b : Nat), w' = w.iter s pos ∧ s.size ≤ pos + b ∧ Utf8Rel s pos b out) (fun _ _ w' => s.size - w'.iterPos w.heap.size)
  case atStart => exact ⟨0, s.size, rfl, by omega, [], rfl, by simp, by rw [size_eq]; rfl⟩
  case round =>
    obtain ⟨pos, b, rfl, hb, o, rfl, hol, ho⟩ := hrel
    have HO := Lib.hid ho
    clear ho
    by_cases hp : pos < s.size
    · rcases hd : Utf8.decode s pos with ⟨r, k⟩
      have hk : 1 ≤ k := width_of s pos r k hp hd
      have hnx := fun ty => nxt w s pos r k hp hd ty
      have hcv := fun W : World => rune_string r W
      have he4 : (encodeRune (r : Int)).length ≤ 4 := by
        unfold encodeRune
        rw [List.length_map]; exact (encodeRuneZ_length _).2
      have hsum : ¬ 9223372036854775807 < o.length + (encodeRune (r : Int)).length := by omega
      have hst : ∃ b', b = b' + 1 ∧ (o ++ encodeRune (r : Int)) ++ recode b' (s.data.toList.drop (pos + k)) = recode s.data.toList.length s.data.toList := by
        cases b with
        | zero => omega
        | succ b =>
          refine ⟨b, rfl, ?_⟩
          have hne : s.data.toList.drop pos ≠ [] := by
            intro e; have := congrArg List.length e; rw [List.length_drop, ← size_eq] at this; simp at this; omega
          have h1 := HO.out
          rw [recode, if_neg hne, decodeL_drop, hd, List.drop_drop] at h1
          rw [List.append_assoc]; exact h1
      obtain ⟨b', rfl, hb2⟩ := hst
      have HB2 := Lib.hid hb2
      have HD := Lib.hid hd
      have H4 := Lib.hid he4
      clear hd hb2 he4
      generalize hen : encodeRune (r : Int) = en at *
      clear hen
      go_wp2_with fail
      go_roundw
      case rel =>
        exact ⟨pos + k, b', rfl, by omega, o ++ en, (by rw [str_add]), by have := H4.out; simp; omega, HB2.out⟩
      case measure =>
        simp
        omega
    · have hnx : ∀ ty, (Instr.next (.pointer (some ⟨w.heap.size, 0, none⟩)) true ty).run Tryd.prog (w.iter s pos) = _ := fun ty => run_next_end w s pos ty hp
      have hfin : o = recode s.data.toList.length s.data.toList := by
        have := HO.out
        rw [List.drop_eq_nil_of_le (by rw [← size_eq]; omega), recode_nil, List.append_nil] at this
        exact this
      have hq : (recode s.size s.data.toList == s.toList) = Lib.validD s.data.toList := by rw [toList_data, size_eq, recode_valid]
      have HF := Lib.hid hfin
      have hq2 : (o == s.toList) = Lib.validD s.data.toList := by rw [hfin, ← size_eq]; exact hq
      clear hfin hq
      go_wp2_with fail
      go_ret
      exact ⟨retb (by first | exact hq2 | rfl), (Below.refl _ w).alloc (Nat.le_refl _) _⟩

/-- plain: no byte below 32, and valid UTF-8. -/
theorem plain_ref (s : ByteArray) (w : World) (hs : s.size ≤ 4294967281) :
    Calls Tryd.prog 101 #[.string s] w fun e w' => e = .returned (.bool (Pn.cleanP s.data.toList)) ∧ Below w.heap.size w w' := by
  have HU := Lib.hid (utf8_ref s w hs)
  go_enter Tryd.func101, Tryd.ntmps101
  go_wp2
  go_loopg [3] s.size (fun gg iv wr => ∃ i : Nat, iv = .int .i64 i ∧ i ≤ s.size ∧ s.size - i ≤ gg ∧ wr = w ∧ Hid (∀ j (h : j < s.data.toList.length), j < i → 32 ≤ (s.data.toList[j]).toNat))
  case atStart => exact ⟨0, rfl, Nat.zero_le _, by omega, rfl, fun _ _ h => absurd h (Nat.not_lt_zero _)⟩
  case round =>
    obtain ⟨i, rfl, hi, hgg, rfl, hall⟩ := hrel
    by_cases hl : i < s.size
    · have hlz : (i : Int) < (s.size : Int) := by omega
      have hl' : i < s.data.toList.length := by rw [← size_eq]; exact hl
      obtain ⟨b, hb⟩ : ∃ b, s.data.toList[i]'hl' = b := ⟨_, rfl⟩
      have e0 : s[i]'hl = b := by rw [← hb]; simp [ByteArray.getElem_eq_getElem_data]
      have HB := Lib.hid hb
      clear hb
      by_cases h32 : b.toNat < 32
      · have hz : (b.toNat : Int) < 32 := by omega
        have hc : Pn.cleanP s.data.toList = false := by
          unfold Pn.cleanP
          have : s.data.toList.all (fun b => decide (32 ≤ b.toNat)) = false := by
            rw [List.all_eq_false]
            exact ⟨b, by rw [← HB.out]; exact List.getElem_mem hl', by simp; omega⟩
          rw [this]; rfl
        have HC := Lib.hid hc
        clear hc
        go_wp2_with fail
        go_ret
        exact ⟨retb HC.out.symm, Below.refl _ _⟩
      · have hz : ¬ (b.toNat : Int) < 32 := by omega
        go_wp2_with fail
        go_roundg (s.size - (i + 1))
        case measure => omega
        case rel =>
          refine ⟨i + 1, by go_num, by omega, Nat.le_refl _, rfl, fun j hj hji => ?_⟩
          by_cases e : j = i
          · subst e; rw [HB.out]; omega
          · exact hall.out j hj (by omega)
    · have hlz : ¬ (i : Int) < (s.size : Int) := by omega
      have hc : Pn.cleanP s.data.toList = Lib.validD s.data.toList := by
        unfold Pn.cleanP
        have : s.data.toList.all (fun b => decide (32 ≤ b.toNat)) = true := by
          rw [List.all_eq_true]
          intro x hx
          obtain ⟨j, hj, rfl⟩ := List.getElem_of_mem hx
          have := hall.out j hj (by rw [← size_eq] at hj; omega)
          simpa using this
        rw [this]; rfl
      have HC := Lib.hid hc
      clear hc
      go_wp2_with fail
      refine HU.out.mono ?_
      rintro e w1 ⟨rfl, hb⟩
      go_wp2_with fail
      go_ret
      exact ⟨retb HC.out.symm, hb⟩

end Go.Proofs.YtdcghpeomaailaaDoor

/-
  The walks of kinkeepref18.Divide and Unite.
-/
namespace Go.Proofs.YtdcghpeomaailaaDoor
open Go.RowKit Go.Lib

/-- Divide's loop: the parts so far, where the next part begins. -/
def DivRel (s : ByteArray) (w : World) (i : Nat) (out from_ : Value) (wr : World) : Prop :=
  ∃ (l : List Pn.B) (fr : Nat) (va : Option Addr) (vc : Nat), out = .slice va l.length vc ∧ from_ = .int .i64 fr ∧ l.length ≤ i ∧ StrsMem wr w.heap.size (.slice va l.length vc) l ∧ Below w.heap.size w wr ∧
    ((i ≤ s.size ∧ fr ≤ i ∧ (47 : UInt8) ∉ (s.data.toList.drop fr).take (i - fr) ∧ l ++ Pn.splitS 47 (s.data.toList.drop fr) = Pn.splitS 47 s.data.toList) ∨ (i = s.size + 1 ∧ l = Pn.splitS 47 s.data.toList))

theorem cut_at {l : Pn.B} {fr i : Nat} (hi : i < l.length) (hf : fr ≤ i) (hc : l[i] = 47) (hn : (47 : UInt8) ∉ (l.drop fr).take (i - fr)) :
    Pn.splitS 47 (l.drop fr) = ((l.drop fr).take (i - fr)) :: Pn.splitS 47 (l.drop (i + 1)) := by
  have h : l.drop fr = (l.drop fr).take (i - fr) ++ 47 :: l.drop (i + 1) := by
    have h1 : l.drop i = 47 :: l.drop (i + 1) := by rw [List.drop_eq_getElem_cons hi, hc]
    rw [← h1]
    have := List.take_append_drop (i - fr) (l.drop fr)
    rw [List.drop_drop, show fr + (i - fr) = i by omega] at this
    exact this.symm
  conv => lhs; rw [h]
  rw [Pn.splitS_append, Pn.splitS_none hn]; rfl

theorem no_more {l : Pn.B} {fr i : Nat} (hi : i < l.length) (hf : fr ≤ i) (hc : l[i] ≠ 47) (hn : (47 : UInt8) ∉ (l.drop fr).take (i - fr)) : (47 : UInt8) ∉ (l.drop fr).take (i + 1 - fr) := by
  rw [show i + 1 - fr = (i - fr) + 1 by omega, List.take_succ_eq_append_getElem (by rw [List.length_drop]; omega)]
  simp only [List.mem_append, List.mem_singleton, not_or]
  refine ⟨hn, ?_⟩
  rw [List.getElem_drop]
  simp only [show fr + (i - fr) = i by omega]
  exact fun e => hc e.symm

theorem str_slice (s : ByteArray) (a b : Nat) : Value.string (s.extract a b) = S ((s.data.toList.drop a).take (b - a)) := by
  have h : s.extract a b = ⟨((s.data.toList.drop a).take (b - a)).toArray⟩ := by
    ext1
    rw [ByteArray.data_extract]
    apply Array.ext'
    simp [Array.toList_extract, List.extract_eq_take_drop]
  rw [h]

theorem byte_other {b c : UInt8} (h : b ≠ c) : ((b.toNat : Int) == (c.toNat : Int)) = false := by
  rw [beq_eq_false_iff_ne]
  intro e
  exact h (UInt8.toNat_inj.1 (by omega))

def DivideOk (s : ByteArray) (w : World) (e : Ending) (w' : World) : Prop :=
  Below w.heap.size w w' ∧ ∃ va vc, e = .returned (.slice va (Pn.splitS 47 s.data.toList).length vc) ∧ StrsMem w' w.heap.size (.slice va (Pn.splitS 47 s.data.toList).length vc) (Pn.splitS 47 s.data.toList)

set_option maxHeartbeats 1000000 in
set_option maxRecDepth 100000 in
theorem divide_any (s : ByteArray) (w : World) (hs : s.size < 4294967280) : Calls Tryd.prog 70 #[.string s] w (DivideOk s w) := by
  go_enter Tryd.func70, Tryd.ntmps70
  go_wp2
  go_loopg [3, 4, 5] (s.size + 1) (fun gg out fv iv wr => ∃ i : Nat, iv = .int .i64 i ∧ i ≤ s.size + 1 ∧ s.size + 1 - i ≤ gg ∧ DivRel s w i out fv wr)
  case atStart => exact ⟨0, rfl, Nat.zero_le _, by omega, [], 0, none, 0, rfl, rfl, Nat.le_refl _, World.ownsRow_nil _ _ _ _, Below.refl _ _, .inl ⟨Nat.zero_le _, Nat.le_refl _, by simp, by simp⟩⟩
  case round =>
    obtain ⟨i, rfl, hi, hgg, l, fr, va, vc, rfl, rfl, hll, hm, hB, hst⟩ := hrel
    have HB := Lib.hid hB
    have HM := Lib.hid hm
    clear hB hm
    rcases hst with ⟨hi2, hfr, hno, hsp⟩ | ⟨rfl, rfl⟩
    · have hlz : (i : Int) ≤ (s.size : Int) := by omega
      obtain ⟨p, hp⟩ : ∃ p, (s.data.toList.drop fr).take (i - fr) = p := ⟨_, rfl⟩
      have hsl : Value.string (s.extract fr i) = S p := by rw [str_slice s fr i, hp]
      obtain ⟨va', vc', w5, hrun, hm5, hB5⟩ := strs_app' HM.out HB.out (Nat.le_refl _) HB.out.size p (by omega)
      rw [← hsl] at hrun
      have HM5 := Lib.hid hm5
      have HB5 := Lib.hid hB5
      have HRUN := Lib.hid hrun
      clear hm5 hB5 hrun hsl
      by_cases hl : i < s.size
      · have hle : ((i : Int) == (s.size : Int)) = false := by rw [beq_eq_false_iff_ne]; omega
        obtain ⟨b, hb⟩ : ∃ b, s.data.toList[i]'(by rw [← size_eq]; exact hl) = b := ⟨_, rfl⟩
        have e0 : s[i]'hl = b := by rw [← hb]; simp [ByteArray.getElem_eq_getElem_data]
        by_cases h47 : b = 47
        · subst h47
          rw [cut_at (by rw [← size_eq]; exact hl) hfr hb hno, hp] at hsp
          have HSP := Lib.hid hsp
          clear hsp hno hb hp
          go_wp2_with (at_builtin; refine wpList_append_run rfl _ _ 75 rfl _ _ rfl rfl _ _ rfl HRUN.out ?_)
          go_roundg (s.size - i)
          case measure => omega
          case rel =>
            exact ⟨i + 1, by go_num, by omega, by omega, l ++ [p], i + 1, va', vc', by simp, by go_num, by simp; omega, by simpa using HM5.out, HB5.out, .inl ⟨by omega, Nat.le_refl _, by simp, by rw [List.append_assoc]; exact HSP.out⟩⟩
        · have HNO := Lib.hid (no_more (by rw [← size_eq]; exact hl) hfr (by rw [hb]; exact h47) hno)
          have HSP := Lib.hid hsp
          have hbn : ((b.toNat : Int) == 47) = false := byte_other h47
          clear hsp hno hb hp h47
          go_wp2_with fail
          go_roundg (s.size - i)
          case measure => omega
          case rel =>
            exact ⟨i + 1, by go_num, by omega, by omega, l, fr, va, vc, rfl, rfl, by omega, HM.out, HB.out, .inl ⟨by omega, by omega, HNO.out, HSP.out⟩⟩
      · have hle : ((i : Int) == (s.size : Int)) = true := by rw [beq_iff_eq]; omega
        have hfin : l ++ [p] = Pn.splitS 47 s.data.toList := by
          have hz : (s.data.toList.drop fr).take (i - fr) = s.data.toList.drop fr := by
            apply List.take_of_length_le
            rw [List.length_drop, ← size_eq]; omega
          rw [hz] at hp hno
          rw [← hsp, Pn.splitS_none hno, hp]
        have HF := Lib.hid hfin
        clear hsp hno hp hfin
        go_wp2_with (at_builtin; refine wpList_append_run rfl _ _ 75 rfl _ _ rfl rfl _ _ rfl HRUN.out ?_)
        go_roundg (s.size - i)
        case measure => omega
        case rel =>
          exact ⟨i + 1, by go_num, by omega, by omega, l ++ [p], i + 1, va', vc', by simp, by go_num, by simp; omega, by simpa using HM5.out, HB5.out, .inr ⟨by omega, HF.out⟩⟩
    · have hlz : ¬ (((s.size + 1 : Nat) : Int) ≤ (s.size : Int)) := by omega
      go_wp2
      go_ret
      exact ⟨HB.out, va, vc, rfl, HM.out⟩

end Go.Proofs.YtdcghpeomaailaaDoor

/-
  The walks of kinkeepref18's Component, Valid, rank, Compare, Within, Unite, and of kinkeeplaw18.same.
-/
namespace Go.Proofs.YtdcghpeomaailaaDoor
open Go.RowKit Go.Lib

theorem one_part (l : Pn.B) : ((Pn.splitS 47 l).length == 1) = !l.contains 47 := by
  cases h : l.contains 47 with
  | false =>
    rw [Pn.splitS_none (by simpa using h)]; rfl
  | true =>
    have hm : (47 : UInt8) ∈ l := by simpa using h
    obtain ⟨a, b, rfl⟩ := List.append_of_mem hm
    rw [Pn.splitS_append, List.length_append]
    have h1 := List.length_pos_iff.2 (Pn.splitS_ne 47 a)
    have h2 := List.length_pos_iff.2 (Pn.splitS_ne 47 b)
    simp; omega

set_option maxHeartbeats 400000 in
set_option maxRecDepth 1000000 in
theorem component_ref0 (s : ByteArray) (w : World) (hs : s.size < 4294967280) :
    Calls Tryd.prog 84 #[.string s] w fun e w' => e = .returned (.bool (!s.toList.isEmpty && decide (s.size ≤ 64) && Pn.cleanP s.data.toList && !s.data.toList.contains 47 && !(s.toList == [46]) && !(s.toList == [46, 46]))) ∧ Below w.heap.size w w' := by
  have hP := plain_ref s w (by omega)
  have hD := Lib.hid fun w => divide_any s w hs
  have h1 := one_part s.data.toList
  unfold DivideOk at hD
  generalize Pn.cleanP s.data.toList = B1 at *
  generalize s.data.toList.contains 47 = B2 at *
  generalize hn : (Pn.splitS 47 s.data.toList).length = n at *
  have h2 : ((n : Int) == 1) = !B2 := by
    rw [← h1, Bool.eq_iff_iff, beq_iff_eq, beq_iff_eq]; omega
  have hP := Lib.hid hP
  clear h1 hn
  go_enter Tryd.func84, Tryd.ntmps84
  go_wp2_with (first | (go_at_call 101; refine hP.out.mono ?_; rintro e w1 ⟨rfl, hb1⟩) | (go_at_call 70; refine (hD.out _).mono ?_; rintro e w2 ⟨hb2, va, vc, rfl, _⟩))
  all_goals go_ret
  all_goals refine ⟨?_, by first | exact Below.refl _ _ | assumption | exact below_then (by assumption) (by assumption)⟩
  all_goals refine congrArg (fun b => Ending.returned (Value.bool b)) ?_
  all_goals first
    | (have h64 : s.size ≤ 64 := by omega
       simp [*]; done)
    | (have h64 : ¬ s.size ≤ 64 := by omega
       simp [*]; done)
    | (simp [*]; done)
    | (have h64 : s.size ≤ 64 := by omega
       simp only [*, decide_true, Bool.and_true]
       cases s.toList.isEmpty <;> cases (s.toList == [46]) <;> cases (s.toList == [46, 46]) <;> cases B2 <;> rfl)

theorem component_ref (s : ByteArray) (w : World) (hs : s.size < 4294967280) :
    Calls Tryd.prog 84 #[.string s] w fun e w' => e = .returned (.bool (Pn.componentP s.data.toList)) ∧ Below w.heap.size w w' := by
  refine (component_ref0 s w hs).mono ?_
  rintro e w' ⟨rfl, hb⟩
  refine ⟨?_, hb⟩
  unfold Pn.componentP
  rw [toList_data, size_eq]

set_option maxHeartbeats 400000 in
set_option maxRecDepth 1000000 in
theorem valid_ref (s : ByteArray) (w : World) (hs : s.size < 4294967280) :
    Calls Tryd.prog 67 #[.string s] w fun e w' => e = .returned (.bool (Pn.validP s.data.toList)) ∧ Below w.heap.size w w' := by
  have HD := Lib.hid (divide_any s w hs)
  unfold DivideOk at HD
  have hlen := splitS_len 47 s.data.toList
  rw [← size_eq] at hlen
  have HPART := Lib.hid fun c (h : c ∈ Pn.splitS 47 s.data.toList) => show c.length < 4294967280 from by have := splitS_part h; rw [← size_eq] at this; omega
  have HV := Lib.hid fun (q : Bool) (h : (Pn.splitS 47 s.data.toList).all Pn.componentP = q) => show Pn.validP s.data.toList = (decide (s.size ≤ 512) && decide ((Pn.splitS 47 s.data.toList).length ≤ 16) && q) from by
    unfold Pn.validP; rw [h, size_eq]
  generalize Pn.validP s.data.toList = V at *
  generalize Pn.splitS 47 s.data.toList = parts at *
  go_enter Tryd.func67, Tryd.ntmps67
  go_wp2_with fail
  refine HD.out.mono ?_
  rintro e w1 ⟨hb, va, vc, rfl, hm⟩
  have HB1 := Lib.hid hb
  have HM := Lib.hid (strsAt_of hm).1
  clear hb hm
  go_wp2_with fail
  go_loopg [5, 10] parts.length (fun gg _ iv wr => ∃ i : Nat, iv = .int .i64 i ∧ i ≤ parts.length ∧ parts.length - i ≤ gg ∧ Hid (∀ j (h : j < parts.length), j < i → Pn.componentP parts[j] = true) ∧ Below w1.heap.size w1 wr)
  case atStart => exact ⟨0, rfl, Nat.zero_le _, by omega, fun _ _ h => absurd h (Nat.not_lt_zero _), Below.refl _ _⟩
  case round =>
    obtain ⟨i, rfl, hi, hgg, hall, hb⟩ := hrel
    have HB := Lib.hid hb
    clear hb
    by_cases hl : i < parts.length
    · have hlz : (i : Int) < (parts.length : Int) := by omega
      obtain ⟨g, rfl, hcell⟩ := (HM.out.below HB.out).get hl
      have hps := HPART.out _ (List.getElem_mem hl)
      obtain ⟨p, hp⟩ : ∃ p, parts[i] = p := ⟨_, rfl⟩
      rw [hp] at hcell hps
      have HP := Lib.hid hp
      clear hp
      have HC := Lib.hid (component_ref ⟨p.toArray⟩ wr hps)
      cases hq : Pn.componentP p with
      | false =>
        rw [show (⟨p.toArray⟩ : ByteArray).data.toList = p from rfl, hq] at HC
        have hall2 : parts.all Pn.componentP = false := by
          rw [List.all_eq_false]
          exact ⟨p, by rw [← HP.out]; exact List.getElem_mem hl, by rw [hq]; decide⟩
        have HF := Lib.hid (HV.out _ hall2)
        clear hall2 hq
        go_wp2_with fail
        refine HC.out.mono ?_
        rintro e w2 ⟨rfl, hb2⟩
        have HB2 := Lib.hid (below_then HB1.out (below_then HB.out hb2))
        clear hb2
        go_wp2_with fail
        go_ret
        exact ⟨by rw [HF.out, Bool.and_false]; rfl, HB2.out⟩
      | true =>
        rw [show (⟨p.toArray⟩ : ByteArray).data.toList = p from rfl, hq] at HC
        have HQ := Lib.hid hq
        clear hq
        go_wp2_with fail
        refine HC.out.mono ?_
        rintro e w2 ⟨rfl, hb2⟩
        have HB2 := Lib.hid (below_then HB.out hb2)
        clear hb2
        go_wp2_with fail
        go_roundg (parts.length - (i + 1))
        case measure => omega
        case rel =>
          refine ⟨i + 1, by go_num, by omega, Nat.le_refl _, fun j hj hji => ?_, HB2.out⟩
          by_cases e : j = i
          · subst e; rw [HP.out]; exact HQ.out
          · exact hall.out j hj (by omega)
    · have hlz : ¬ (i : Int) < (parts.length : Int) := by omega
      have hall2 : parts.all Pn.componentP = true := by
        rw [List.all_eq_true]
        intro x hx
        obtain ⟨j, hj, rfl⟩ := List.getElem_of_mem hx
        exact hall.out j hj (by omega)
      have HF := Lib.hid (HV.out _ hall2)
      clear hall2
      go_wp2_with fail
      all_goals go_ret
      all_goals refine ⟨?_, below_then HB1.out HB.out⟩
      all_goals rw [HF.out]
      all_goals refine congrArg (fun b => Ending.returned (Value.bool b)) ?_
      all_goals first
        | (have h1 : parts.length ≤ 16 := by omega
           have h2 : s.size ≤ 512 := by omega
           simp [h1, h2]; done)
        | (have h1 : ¬ parts.length ≤ 16 := by omega
           simp [h1]; done)
        | (have h2 : ¬ s.size ≤ 512 := by omega
           simp [h2]; done)
        | (have h1 : parts.length ≤ 16 := by omega
           by_cases h2 : s.size ≤ 512
           · have h3 : (s.size : Int) ≤ 512 := by omega
             simp [h1, h2, h3]
           · have h3 : ¬ (s.size : Int) ≤ 512 := by omega
             simp [h2, h3])
        | trace_state

/-- rank. -/
theorem rank_ref (b : UInt8) (w : World) : Calls Tryd.prog 68 #[.int .u8 b.toNat] w fun e w' => e = .returned (.int .i64 (Pn.rankP b)) ∧ w = w' := by
  have hb := b.toNat_lt
  unfold Pn.rankP
  by_cases h : b = 47
  · subst h
    go_enter Tryd.func68, Tryd.ntmps68
    go_wp2
    go_ret
    exact ⟨rfl, rfl⟩
  · have h1 : (((b.toNat : Nat) : Int) == 47) = false := byte_other h
    rw [if_neg h]
    go_enter Tryd.func68, Tryd.ntmps68
    go_wp2
    go_ret
    exact ⟨by first | rfl | (refine reti ?_; simp), rfl⟩

theorem rank_quiet (b : UInt8) (w : World) (nn : Nat) : Calls Tryd.prog 68 #[.int .u8 b.toNat] (w.drewN nn) fun e w' => e = .returned (.int .i64 (Pn.rankP b)) ∧ ∃ m, w' = w.drewN m :=
  (rank_ref b (w.drewN nn)).mono (by rintro e w' ⟨rfl, rfl⟩; exact ⟨rfl, nn, rfl⟩)

theorem drew_below {B : Nat} {w x : World} (h : Below B w x) (n : Nat) : Below B w (x.drewN n) := ⟨h.os, h.tape, h.output, h.size, h.block⟩

theorem cmp_stop (a b : Pn.B) (i : Nat) (ha : i ≤ a.length) (_hb : i ≤ b.length) (h : ¬ (i < a.length ∧ i < b.length)) : Pn.cmpP (a.drop i) (b.drop i) = if a.length < b.length then -1 else if b.length < a.length then 1 else 0 := by
  by_cases h1 : i < a.length
  · have h2 : b.length = i := by omega
    rw [List.drop_eq_nil_of_le (by omega : b.length ≤ i), List.drop_eq_getElem_cons h1, if_neg (by omega), if_pos (by omega)]; rfl
  · rw [List.drop_eq_nil_of_le (by omega : a.length ≤ i)]
    by_cases h2 : i < b.length
    · rw [List.drop_eq_getElem_cons h2, if_pos (by omega)]; rfl
    · rw [List.drop_eq_nil_of_le (by omega : b.length ≤ i), if_neg (by omega), if_neg (by omega)]; rfl

set_option maxHeartbeats 1000000 in
set_option maxRecDepth 1000000 in
theorem compare_ref (a b : ByteArray) (w : World) (ha : a.size < 4294967280) (_hb : b.size < 4294967280) :
    Calls Tryd.prog 48 #[.string a, .string b] w fun e w' => e = .returned (.int .i64 (Pn.cmpP a.data.toList b.data.toList)) ∧ Below w.heap.size w w' := by
  have haz := size_eq a
  have hbz := size_eq b
  go_enter Tryd.func48, Tryd.ntmps48
  go_wp2_with fail
  go_loopg [5] a.size (fun gg iv wr => ∃ i : Nat, iv = .int .i64 i ∧ i ≤ a.size ∧ i ≤ b.size ∧ a.size - i ≤ gg ∧ Hid (Pn.cmpP (a.data.toList.drop i) (b.data.toList.drop i) = Pn.cmpP a.data.toList b.data.toList) ∧ Below w.heap.size w wr)
  case atStart => exact ⟨0, rfl, Nat.zero_le _, Nat.zero_le _, by omega, rfl, Below.refl _ _⟩
  case round =>
    obtain ⟨i, rfl, hi1, hi2, hgg, hc, hB⟩ := hrel
    have HB := Lib.hid hB
    clear hB
    by_cases hl : i < a.size ∧ i < b.size
    · obtain ⟨hl1, hl2⟩ := hl
      have hz1 : (i : Int) < (a.size : Int) := by omega
      have hz2 : (i : Int) < (b.size : Int) := by omega
      have hl1' : i < a.data.toList.length := by omega
      have hl2' : i < b.data.toList.length := by omega
      obtain ⟨x, hx⟩ : ∃ x, a.data.toList[i]'hl1' = x := ⟨_, rfl⟩
      obtain ⟨y, hy⟩ : ∃ y, b.data.toList[i]'hl2' = y := ⟨_, rfl⟩
      have e0 : a[i]'hl1 = x := by rw [← hx]; simp [ByteArray.getElem_eq_getElem_data]
      have e1 : b[i]'hl2 = y := by rw [← hy]; simp [ByteArray.getElem_eq_getElem_data]
      have hst := cmp_step a.data.toList b.data.toList i hl1' hl2'
      rw [hc.out, hx, hy] at hst
      unfold compareInt at hst
      have HR := Lib.hid rank_ref
      clear hc hx hy haz hbz
      generalize hrx : Pn.rankP x = rx at *
      generalize hry : Pn.rankP y = ry at *
      have HRX := Lib.hid fun W nn => rank_quiet x W nn
      have HRY := Lib.hid fun W nn => rank_quiet y W nn
      rw [hrx] at HRX
      rw [hry] at HRY
      have HST := Lib.hid hst
      clear hst hrx hry
      by_cases h1 : rx < ry
      · have hc2 : Pn.cmpP a.data.toList b.data.toList = -1 := by rw [HST.out]; simp [h1]
        have HC2 := Lib.hid hc2
        clear hc2
        go_wp2_with fail
        go_quiet (first | (go_at_call 68; exact HRX.out _ _) | (go_at_call 68; exact HRY.out _ _))
        go_wp2_with fail
        go_ret
        exact ⟨by rw [HC2.out]; rfl, by first | exact drew_below HBQ.out _ | exact drew_below HB.out _⟩
      · by_cases h2 : ry < rx
        · have hc2 : Pn.cmpP a.data.toList b.data.toList = 1 := by rw [HST.out]; simp [h1, h2]
          have HC2 := Lib.hid hc2
          clear hc2
          go_wp2_with fail
          go_quiet (first | (go_at_call 68; exact HRX.out _ _) | (go_at_call 68; exact HRY.out _ _))
          have HBQ := Lib.hid (drew_below HB.out nq)
          generalize wr.drewN nq = W2 at *
          go_wp2_with fail
          go_quiet (first | (go_at_call 68; exact HRX.out _ _) | (go_at_call 68; exact HRY.out _ _))
          go_wp2_with fail
          go_ret
          exact ⟨by rw [HC2.out]; rfl, by first | exact drew_below HBQ.out _ | exact drew_below HB.out _⟩
        · have hc2 : Pn.cmpP (a.data.toList.drop (i + 1)) (b.data.toList.drop (i + 1)) = Pn.cmpP a.data.toList b.data.toList := by rw [HST.out]; simp [h1, h2]
          have HC2 := Lib.hid hc2
          clear hc2
          go_wp2_with fail
          go_quiet (first | (go_at_call 68; exact HRX.out _ _) | (go_at_call 68; exact HRY.out _ _))
          have HBQ := Lib.hid (drew_below HB.out nq)
          generalize wr.drewN nq = W2 at *
          go_wp2_with fail
          go_quiet (first | (go_at_call 68; exact HRX.out _ _) | (go_at_call 68; exact HRY.out _ _))
          go_wp2_with fail
          go_roundg (a.size - (i + 1))
          case measure => omega
          case rel => exact ⟨i + 1, by go_num, by omega, by omega, Nat.le_refl _, HC2.out, by first | exact drew_below HBQ.out _ | exact drew_below HB.out _⟩
    · have hfin := cmp_stop a.data.toList b.data.toList i (by omega) (by omega) (by omega)
      rw [hc.out, ← haz, ← hbz] at hfin
      have HF := Lib.hid hfin
      clear hfin hc haz hbz
      by_cases hl1 : i < a.size
      · have hz1 : (i : Int) < (a.size : Int) := by omega
        have hz2 : ¬ (i : Int) < (b.size : Int) := by omega
        have hz3 : ¬ (a.size : Int) < (b.size : Int) := by omega
        have hz4 : (b.size : Int) < (a.size : Int) := by omega
        have HF2 := Lib.hid (HF.out.trans (by rw [if_neg (by omega), if_pos (by omega)]) : _ = (1 : Int))
        clear hl
        go_wp2_with fail
        go_ret
        exact ⟨by rw [HF2.out]; rfl, HB.out⟩
      · have hz1 : ¬ (i : Int) < (a.size : Int) := by omega
        by_cases hl2 : i < b.size
        · have hz3 : (a.size : Int) < (b.size : Int) := by omega
          have HF2 := Lib.hid (HF.out.trans (by rw [if_pos (by omega)]) : _ = (-1 : Int))
          clear hl
          go_wp2_with fail
          go_ret
          exact ⟨by rw [HF2.out]; rfl, HB.out⟩
        · have hz3 : ¬ (a.size : Int) < (b.size : Int) := by omega
          have hz4 : ¬ (b.size : Int) < (a.size : Int) := by omega
          have HF2 := Lib.hid (HF.out.trans (by rw [if_neg (by omega), if_neg (by omega)]) : _ = (0 : Int))
          clear hl
          go_wp2_with fail
          go_ret
          exact ⟨by rw [HF2.out]; rfl, HB.out⟩

end Go.Proofs.YtdcghpeomaailaaDoor

/-
  The walks of kinkeepref18.Unite and kinkeeplaw18.same.
-/
namespace Go.Proofs.YtdcghpeomaailaaDoor
open Go.RowKit Go.Lib

theorem weight_take (l : List Pn.B) (k : Nat) : weight (l.take k) ≤ weight l := by
  have h : weight l = weight (l.take k) + weight (l.drop k) := by
    unfold weight
    rw [← List.sum_append, ← List.map_append, List.take_append_drop]
  omega

theorem weight_mem {l : List Pn.B} {p : Pn.B} (h : p ∈ l) : p.length ≤ weight l := by
  obtain ⟨a, b, rfl⟩ := List.append_of_mem h
  simp [weight]; omega

theorem len_weight (l : List Pn.B) : l.length ≤ weight l := by
  induction l with
  | nil => simp
  | cons p r ih => simp only [weight, List.map_cons, List.sum_cons, List.length_cons] at ih ⊢; omega

theorem join_next {l : List Pn.B} {i : Nat} (h : i < l.length) (h0 : i ≠ 0) : Pn.joinS 47 (l.take (i + 1)) = Pn.joinS 47 (l.take i) ++ 47 :: l[i] := by
  rw [List.take_succ_eq_append_getElem h, join_snoc]
  intro e
  have := congrArg List.length e
  rw [List.length_take, List.length_nil] at this
  omega

set_option maxHeartbeats 1000000 in
set_option maxRecDepth 100000 in
theorem unite_any (l : List Pn.B) (va : Option Addr) (vc : Nat) (w : World) (hr : StrsAt w va l) (hw : weight l ≤ 4294967290) :
    Calls Tryd.prog 71 #[.slice va l.length vc] w fun e w' => e = .returned (S (Pn.joinS 47 l)) ∧ Below w.heap.size w w' := by
  have HR := Lib.hid hr
  have hlw := len_weight l
  clear hr
  go_enter Tryd.func71, Tryd.ntmps71
  go_wp2_with fail
  go_loopg [3, 4, 5, 8] l.length (fun gg out _ _ iv wr => ∃ i : Nat, iv = .int .i64 i ∧ i ≤ l.length ∧ l.length - i ≤ gg ∧ out = S (Pn.joinS 47 (l.take i)) ∧ wr = w)
  case atStart => exact ⟨0, rfl, Nat.zero_le _, by omega, rfl, rfl⟩
  case round =>
    obtain ⟨i, rfl, hi, hgg, rfl, rfl⟩ := hrel
    by_cases hl : i < l.length
    · have hlz : (i : Int) < (l.length : Int) := by omega
      obtain ⟨g, rfl, hcell⟩ := HR.out.get hl
      obtain ⟨p, hp⟩ : ∃ p, l[i] = p := ⟨_, rfl⟩
      have hpl : p.length ≤ weight l := by rw [← hp]; exact weight_mem (List.getElem_mem hl)
      have hjl := Nat.le_trans (joinS_len 47 (l.take i)) (weight_take l i)
      rw [hp] at hcell
      by_cases h0 : i = 0
      · subst h0
        have hj : Pn.joinS 47 (l.take 1) = p := by
          rw [show 1 = 0 + 1 from rfl, List.take_succ_eq_append_getElem hl, hp]; rfl
        have hz : ¬ (0 : Int) < ((0 : Nat) : Int) := by omega
        have HJ := Lib.hid hj
        have hsum : ¬ 9223372036854775807 < 0 + p.length := by omega
        have hsum2 : ¬ 9223372036854775807 < p.length := by omega
        clear hj hp
        go_wp2_with fail
        go_roundg (l.length - 1)
        case measure => omega
        case rel =>
          refine ⟨0 + 1, by go_num, by omega, by omega, ?_, rfl⟩
          rw [HJ.out]
          congr 1
      · have hj := join_next hl h0
        have hz : (0 : Int) < (i : Int) := by omega
        rw [hp] at hj
        have HJ := Lib.hid hj
        generalize Pn.joinS 47 (l.take i) = o at *
        have hsum : ¬ 9223372036854775807 < o.length + 1 := by omega
        have hsum2 : ¬ 9223372036854775807 < o.length + 1 + p.length := by omega
        clear hj hp
        go_wp2_with fail
        go_roundg (l.length - (i + 1))
        case measure => omega
        case rel =>
          refine ⟨i + 1, by go_num, by omega, Nat.le_refl _, ?_, rfl⟩
          rw [HJ.out]
          congr 1
          ext1
          simp [ByteArray.data_append]
    · have hlz : ¬ (i : Int) < (l.length : Int) := by omega
      have ht : l.take i = l := List.take_of_length_le (by omega)
      rw [ht]
      go_wp2_with fail
      go_ret
      exact ⟨rfl, Below.refl _ _⟩

end Go.Proofs.YtdcghpeomaailaaDoor
