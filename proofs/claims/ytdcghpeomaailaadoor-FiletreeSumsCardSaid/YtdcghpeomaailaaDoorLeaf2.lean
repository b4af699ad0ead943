/-
  The walks of pathname's Split, Parent, Within, Compare.
-/
import Derived.Test.YtdcghpeomaailaaDoorLeaf
namespace Go.Proofs.YtdcghpeomaailaaDoor
open Go.RowKit Go.Lib

theorem str_take (s : ByteArray) (k : Nat) : (Value.string (s.extract 0 k)) = S (s.data.toList.take k) := by
  rw [← extract_from_zero]

/-- Parent. -/
def ParentOk (s : ByteArray) (w : World) (e : Ending) (w' : World) : Prop :=
  Below w.heap.size w w' ∧ e = .returned (if Pn.validP s.data.toList then .tuple #[S (Pn.parentP s.data.toList), .bool true] else .tuple #[S [], .bool false])

set_option maxHeartbeats 400000 in
theorem parent_any (s : ByteArray) (w : World) (hs : s.size < 4294967281) (hE : Env w) :
    Calls Tryd.prog 26 #[.string s] w (ParentOk s w) := by
  have hV := valid_any s w hs hE
  cases hv : Pn.validP s.data.toList with
  | false =>
    rw [hv] at hV
    have HV := Lib.hid hv; clear hv
    go_enter Tryd.func26, Tryd.ntmps26
    go_wp2_with (go_at_call 20; refine hV.mono ?_; rintro e w' ⟨rfl, hb⟩)
    go_ret2
    exact ⟨by assumption, by rw [HV.out]; rfl⟩
  | true =>
    rw [hv] at hV
    have HV := Lib.hid hv; clear hv
    have hL := fun w => Tryd.strings_LastIndexByte s 47 (by omega) w
    rcases Pn.last_slash s with ⟨hi, _, hp⟩ | ⟨i, hlt, hi, _, _, hp⟩
    · rw [hi] at hL
      have HP := Lib.hid hp; have hL := Lib.hid hL; clear hi hp
      go_enter Tryd.func26, Tryd.ntmps26
      go_wp2_with (first | (go_at_call 20; refine hV.mono ?_; rintro e w1 ⟨rfl, hb⟩) | (go_at_call 51; refine (hL.out _).mono ?_; rintro e w' ⟨rfl, hw⟩; rw [hw]))
      go_ret2
      refine ⟨by assumption, ?_⟩
      rw [HV.out, HP.out]
      show Ending.returned (.tuple #[.string (s.extract 0 (max (-1) (0 : Int)).toNat), .bool true]) = _
      rw [str_take]; rfl
    · rw [hi] at hL
      have HP := Lib.hid hp; have hL := Lib.hid hL; clear hi hp
      go_enter Tryd.func26, Tryd.ntmps26
      go_wp2_with (first | (go_at_call 20; refine hV.mono ?_; rintro e w1 ⟨rfl, hb⟩) | (go_at_call 51; refine (hL.out _).mono ?_; rintro e w' ⟨rfl, hw⟩; rw [hw]))
      go_ret2
      refine ⟨by assumption, ?_⟩
      rw [HV.out, HP.out]
      first | rfl | (show Ending.returned (.tuple #[.string (s.extract 0 (max (i : Int) (0 : Int)).toNat), .bool true]) = _; rw [str_take, show (max (i : Int) 0).toNat = i by omega]; rfl) | (show Ending.returned (.tuple #[.string (s.extract 0 i), .bool true]) = _; rw [str_take]; rfl)

set_option maxHeartbeats 400000 in
set_option maxRecDepth 100000 in
/-- Within. -/
theorem within_any (d s : ByteArray) (w : World) (hd : d.size < 4294967281) (hs : s.size < 4294967281) (hE : Env w) :
    Calls Tryd.prog 18 #[.string d, .string s] w fun e w' => e = .returned (.bool (Pn.withinP d.data.toList s.data.toList)) ∧ Below w.heap.size w w' := by
  have e1 : d.data.toList.isEmpty = d.toList.isEmpty := by rw [toList_data]
  have e2 : (s.data.toList == d.data.toList) = (s.toList == d.toList) := by rw [toList_data, toList_data]
  unfold Pn.withinP
  rw [e1, e2]
  clear e1 e2
  go_enter Tryd.func18, Tryd.ntmps18
  go_wp2_with (first | (go_at_call 20; refine (valid_any _ _ (by assumption) (by first | assumption | exact hE.below (by assumption))).mono ?_; rintro e w1 ⟨rfl, hb⟩) | (go_at_call 40; refine (Tryd.strings_HasPrefix _ _ _).mono ?_; rintro e w' ⟨rfl, hw⟩; rw [hw]))
  all_goals go_ret
  all_goals refine ⟨retb ?_, by first | assumption | exact below_then (by assumption) (by assumption)⟩
  all_goals first | (simp [*]; done) | (simp_all; done) | (unfold hasPrefix; simp_all; done)

/-- rank. -/
theorem rank_any (b : UInt8) (w : World) : Calls Tryd.prog 80 #[.int .u8 b.toNat] w fun e w' => e = .returned (.int .i64 (Pn.rankP b)) ∧ w = w' := by
  have hb := b.toNat_lt
  unfold Pn.rankP
  by_cases h : b = 47
  · subst h
    go_enter Tryd.func80, Tryd.ntmps80
    go_wp2
    go_ret
    exact ⟨rfl, rfl⟩
  · have h1 : (((b.toNat : Nat) : Int) == 47) = false := by
      rw [beq_eq_false_iff_ne]; intro e
      exact h (UInt8.toNat_inj.1 (by have : b.toNat = 47 := by omega
                                     exact this))
    rw [if_neg h]
    go_enter Tryd.func80, Tryd.ntmps80
    go_wp2
    go_ret
    exact ⟨by first | rfl | (refine reti ?_; simp), rfl⟩

/-- The closure of Compare. -/
theorem cmpByte_any (a b : UInt8) (w : World) : Calls Tryd.prog 78 #[.int .u8 a.toNat, .int .u8 b.toNat] w fun e w' => e = .returned (.int .i64 (compareInt (Pn.rankP a) (Pn.rankP b))) ∧ w = w' := by
  go_enter Tryd.func78, Tryd.ntmps78
  go_wp2_with (first | (go_at_call 80; refine (rank_any _ _).mono ?_; rintro e w' ⟨rfl, rfl⟩) | (go_at_call 79; refine (Tryd.cmp_Compare_int _ _ _).mono ?_; rintro e w' ⟨rfl, hw⟩; rw [hw]))
  go_ret
  exact ⟨rfl, rfl⟩

theorem dropNil {l : Pn.B} {i : Nat} (h : l.length ≤ i) : l.drop i = [] := List.drop_eq_nil_of_le h

/-- The bytes of a text, as cells. -/
def bytesOf (l : Pn.B) : List Value := l.map fun b => .int .u8 b.toNat

/-- Comparing from one place on. -/
theorem cmp_step (a b : Pn.B) (i : Nat) (h1 : i < a.length) (h2 : i < b.length) :
    Pn.cmpP (a.drop i) (b.drop i) = if compareInt (Pn.rankP a[i]) (Pn.rankP b[i]) = 0 then Pn.cmpP (a.drop (i + 1)) (b.drop (i + 1)) else compareInt (Pn.rankP a[i]) (Pn.rankP b[i]) := by
  rw [List.drop_eq_getElem_cons h1, List.drop_eq_getElem_cons h2, Pn.cmpP]
  unfold compareInt
  by_cases x : Pn.rankP a[i] < Pn.rankP b[i]
  · rw [if_pos x, if_pos x, if_neg (by omega)]
  · by_cases y : Pn.rankP b[i] < Pn.rankP a[i]
    · rw [if_neg x, if_neg x, if_pos y, if_pos y, if_neg (by omega)]
    · rw [if_neg x, if_neg x, if_neg y, if_neg y, if_pos rfl]

set_option maxHeartbeats 1000000 in
/-- slices.CompareFunc over bytes, with Compare's closure. -/
theorem compareFunc_any (a b : Pn.B) (b1 b2 o1 o2 c1 c2 : Nat) (w : World) (ha : a.length ≤ 9223372036854775807) (_hb : b.length ≤ 9223372036854775807) (hr1 : RowAt w b1 o1 (bytesOf a)) (hr2 : RowAt w b2 o2 (bytesOf b)) :
    Calls Tryd.prog 77 #[.slice (some ⟨b1, o1, none⟩) a.length c1, .slice (some ⟨b2, o2, none⟩) b.length c2, .func (.func 78) #[] #[]] w fun e w' => e = .returned (.int .i64 (Pn.cmpP a b)) ∧ w = w' := by
  have hR1 := Lib.hid hr1
  have hR2 := Lib.hid hr2
  clear hr1 hr2
  go_enter Tryd.func77, Tryd.ntmps77
  go_wp2
  go_loopg [7, 8, 9, 10, 13] a.length (fun gg _ _ _ _ v w' => ∃ i : Nat, v = .int .i64 i ∧ i ≤ a.length ∧ i ≤ b.length ∧ a.length - i ≤ gg ∧ Hid (Pn.cmpP a b = Pn.cmpP (a.drop i) (b.drop i)) ∧ w = w')
  case atStart => exact ⟨0, rfl, Nat.zero_le _, Nat.zero_le _, by omega, by unfold Hid; simp, rfl⟩
  case round =>
    obtain ⟨i, rfl, hi, hib, hgg, hC, rfl⟩ := hrel
    by_cases h1 : i < a.length
    · have z1 : (i : Int) < (a.length : Int) := by omega
      have hc1 : w.cell? ⟨b1, o1 + i, none⟩ = some (.int .u8 (a[i].toNat : Nat)) := by
        have := hR1.out i (by simpa [bytesOf] using h1); simpa [bytesOf] using this
      by_cases h2 : i < b.length
      · have z2 : (i : Int) < (b.length : Int) := by omega
        have hc2 : w.cell? ⟨b2, o2 + i, none⟩ = some (.int .u8 (b[i].toNat : Nat)) := by
          have := hR2.out i (by simpa [bytesOf] using h2); simpa [bytesOf] using this
        have hst := cmp_step a b i h1 h2
        have hcall := cmpByte_any a[i] b[i] w
        generalize a[i] = x at *
        generalize b[i] = y at *
        generalize compareInt (Pn.rankP x) (Pn.rankP y) = r at *
        have HST := Lib.hid hst; clear hst
        by_cases hr : r = 0
        · subst hr
          have hcall := Lib.hid hcall
          go_wp2_with (go_at_call 78; refine hcall.out.mono ?_; rintro e w' ⟨rfl, rfl⟩)
          go_roundg (a.length - (i + 1))
          case measure => omega
          case rel =>
            refine ⟨i + 1, by go_num, by omega, by omega, by omega, ?_, rfl⟩
            unfold Hid; rw [hC.out, HST.out]; simp
        · have hrb : (r != 0) = true := by simpa using hr
          have hfin : Hid (Pn.cmpP a b = r) := by unfold Hid; rw [hC.out, HST.out, if_neg hr]
          clear HST hC
          have hcall := Lib.hid hcall
          go_wp2_with (go_at_call 78; refine hcall.out.mono ?_; rintro e w' ⟨rfl, rfl⟩)
          go_ret
          exact ⟨by rw [hfin.out]; rfl, rfl⟩
      · have z2 : (b.length : Int) ≤ (i : Int) := by omega
        have hfin : Hid (Pn.cmpP a b = 1) := by
          unfold Hid; rw [hC.out, List.drop_eq_getElem_cons h1, dropNil (l := b) (i := i) (by omega)]; rfl
        clear hC
        go_wp2
        go_ret
        exact ⟨by rw [hfin.out]; rfl, rfl⟩
    · have z1 : ¬ (i : Int) < (a.length : Int) := by omega
      by_cases h2 : a.length < b.length
      · have z2 : (a.length : Int) < (b.length : Int) := by omega
        have hfin : Hid (Pn.cmpP a b = -1) := by
          unfold Hid; rw [hC.out, dropNil (l := a) (i := i) (by omega), List.drop_eq_getElem_cons (show i < b.length by omega)]; rfl
        clear hC
        go_wp2
        go_ret
        exact ⟨by rw [hfin.out]; rfl, rfl⟩
      · have z2 : ¬ (a.length : Int) < (b.length : Int) := by omega
        have hfin : Hid (Pn.cmpP a b = 0) := by
          unfold Hid; rw [hC.out, dropNil (l := a) (i := i) (by omega), dropNil (l := b) (i := i) (by omega)]; rfl
        clear hC
        go_wp2
        go_ret
        exact ⟨by rw [hfin.out]; rfl, rfl⟩

/-- '[]byte(s)': a new block whose first cells are the text's bytes. -/
theorem bytes_of (s : ByteArray) (w : World) : ∃ w1 cap, (convert 9 23 (.string s)).run Tryd.prog w = .ok (.slice (some ⟨w.heap.size, 0, none⟩) s.size cap) w1 ∧
    Below w.heap.size w w1 ∧ w1.heap.size = w.heap.size + 1 ∧ RowAt w1 w.heap.size 0 (bytesOf s.data.toList) := by
  refine ⟨_, _, run_bytes_of_string w _ _ 5 s Tryd.underlying9 Tryd.underlying23 Tryd.underlying5, ?_, ?_, ?_⟩
  · exact ((Below.refl _ w).drew).alloc (Nat.le_refl _) _
  · simp
  · intro i hi
    have hi' : i < s.data.size := by simpa [bytesOf] using hi
    rw [Nat.zero_add]
    generalize grownCap w s.size 0 5 = cap
    have h : ((w.drew).alloc (.cells (bytesRow s cap) 5 ((bytesRow s cap).size, (bytesRow s cap).size + 1))).heap[w.heap.size]? = some (.cells (bytesRow s cap) 5 ((bytesRow s cap).size, (bytesRow s cap).size + 1)) := by
      show (w.heap.push _)[w.heap.size]? = _
      simp
    simp only [World.cell?, h]
    simp only [bytesRow]
    have hj : i < (Array.map (fun b : UInt8 => Value.int IntKind.u8 b.toNat) s.data).size := by simpa using hi'
    rw [Array.getElem?_append_left hj, Array.getElem?_map, Array.getElem?_eq_getElem hi']
    simp [bytesOf]

set_option maxHeartbeats 400000 in
/-- Compare. -/
theorem compare_any (a b : ByteArray) (w : World) (ha : a.size < 4294967281) (hb : b.size < 4294967281) :
    Calls Tryd.prog 63 #[.string a, .string b] w fun e w' => e = .returned (.int .i64 (Pn.cmpP a.data.toList b.data.toList)) ∧ Below w.heap.size w w' := by
  obtain ⟨w1, c1, hrun1, hb1, hz1, hr1⟩ := bytes_of a w
  obtain ⟨w2, c2, hrun2, hb2, hz2, hr2⟩ := bytes_of b w1
  have hr1' := hr1.below hb2 (by omega)
  have hC := compareFunc_any a.data.toList b.data.toList w.heap.size w1.heap.size 0 0 c1 c2 w2 (by rw [← size_eq]; omega) (by rw [← size_eq]; omega) hr1' hr2
  rw [← size_eq, ← size_eq] at hC
  generalize Pn.cmpP a.data.toList b.data.toList = r at *
  have hbb := below_then hb1 hb2
  have hC := Lib.hid hC
  clear hr1 hr1' hr2 hz1 hz2
  go_enter Tryd.func63, Tryd.ntmps63
  go_wp2_with (go_at_call 77; refine hC.out.mono ?_; rintro e w' ⟨rfl, rfl⟩)
  go_ret
  exact ⟨rfl, hbb⟩

end Go.Proofs.YtdcghpeomaailaaDoor
