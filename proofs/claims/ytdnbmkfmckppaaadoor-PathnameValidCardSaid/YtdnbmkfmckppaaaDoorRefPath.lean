/-
  The walks of kinkeepref18's Component, Valid, rank, Compare, Within, Unite, and of kinkeeplaw18.same.
-/
import Derived.Test.YtdnbmkfmckppaaaDoorUtf8R
import Derived.Test.YtdnbmkfmckppaaaDoorDivide
import Derived.Test.YtdnbmkfmckppaaaDoorLawRejoins
import Derived.BigQuiet
namespace Go.Proofs.YtdnbmkfmckppaaaDoor
open Go.RowKit Go.Lib

theorem one_part (l : Pn.B) : ((Pn.splitS 47 l).length == 1) = !l.contains 47 := by
  cases h : l.contains 47 with
  | false =>
    rw [Pn.splitS_none (by simpa using h)]; rfl
  | true =>
    have hm : (47 : UInt8) ∈ l := by simpa using h
    obtain ⟨a, b, rfl⟩ := List.append_of_mem hm
    rw [Pn.splitS_append, List.length_append]
    have h1 := List.length_pos_iff.2 (Pn.splitS_ne 47 a)
    have h2 := List.length_pos_iff.2 (Pn.splitS_ne 47 b)
    simp; omega

set_option maxHeartbeats 400000 in
set_option maxRecDepth 1000000 in
theorem component_ref0 (s : ByteArray) (w : World) (hs : s.size < 4294967280) :
    Calls Tryd.prog 41 #[.string s] w fun e w' => e = .returned (.bool (!s.toList.isEmpty && decide (s.size ≤ 64) && Pn.cleanP s.data.toList && !s.data.toList.contains 47 && !(s.toList == [46]) && !(s.toList == [46, 46]))) ∧ Below w.heap.size w w' := by
  have hP := plain_ref s w (by omega)
  have hD := Lib.hid fun w => divide_any s w hs
  have h1 := one_part s.data.toList
  unfold DivideOk at hD
  generalize Pn.cleanP s.data.toList = B1 at *
  generalize s.data.toList.contains 47 = B2 at *
  generalize hn : (Pn.splitS 47 s.data.toList).length = n at *
  have h2 : ((n : Int) == 1) = !B2 := by
    rw [← h1, Bool.eq_iff_iff, beq_iff_eq, beq_iff_eq]; omega
  have hP := Lib.hid hP
  clear h1 hn
  go_enter Tryd.func41, Tryd.ntmps41
  go_wp2_with (first | (go_at_call 66; refine hP.out.mono ?_; rintro e w1 ⟨rfl, hb1⟩) | (go_at_call 19; refine (hD.out _).mono ?_; rintro e w2 ⟨hb2, va, vc, rfl, _⟩))
  all_goals go_ret
  all_goals refine ⟨?_, by first | exact Below.refl _ _ | assumption | exact below_then (by assumption) (by assumption)⟩
  all_goals refine congrArg (fun b => Ending.returned (Value.bool b)) ?_
  all_goals first
    | (have h64 : s.size ≤ 64 := by omega
       simp [*]; done)
    | (have h64 : ¬ s.size ≤ 64 := by omega
       simp [*]; done)
    | (simp [*]; done)
    | (have h64 : s.size ≤ 64 := by omega
       simp only [*, decide_true, Bool.and_true]
       cases s.toList.isEmpty <;> cases (s.toList == [46]) <;> cases (s.toList == [46, 46]) <;> cases B2 <;> rfl)

theorem component_ref (s : ByteArray) (w : World) (hs : s.size < 4294967280) :
    Calls Tryd.prog 41 #[.string s] w fun e w' => e = .returned (.bool (Pn.componentP s.data.toList)) ∧ Below w.heap.size w w' := by
  refine (component_ref0 s w hs).mono ?_
  rintro e w' ⟨rfl, hb⟩
  refine ⟨?_, hb⟩
  unfold Pn.componentP
  rw [toList_data, size_eq]

set_option maxHeartbeats 400000 in
set_option maxRecDepth 1000000 in
theorem valid_ref (s : ByteArray) (w : World) (hs : s.size < 4294967280) :
    Calls Tryd.prog 18 #[.string s] w fun e w' => e = .returned (.bool (Pn.validP s.data.toList)) ∧ Below w.heap.size w w' := by
  have HD := Lib.hid (divide_any s w hs)
  unfold DivideOk at HD
  have hlen := splitS_len 47 s.data.toList
  rw [← size_eq] at hlen
  have HPART := Lib.hid fun c (h : c ∈ Pn.splitS 47 s.data.toList) => show c.length < 4294967280 from by have := splitS_part h; rw [← size_eq] at this; omega
  have HV := Lib.hid fun (q : Bool) (h : (Pn.splitS 47 s.data.toList).all Pn.componentP = q) => show Pn.validP s.data.toList = (decide (s.size ≤ 512) && decide ((Pn.splitS 47 s.data.toList).length ≤ 16) && q) from by
    unfold Pn.validP; rw [h, size_eq]
  generalize Pn.validP s.data.toList = V at *
  generalize Pn.splitS 47 s.data.toList = parts at *
  go_enter Tryd.func18, Tryd.ntmps18
  go_wp2_with fail
  refine HD.out.mono ?_
  rintro e w1 ⟨hb, va, vc, rfl, hm⟩
  have HB1 := Lib.hid hb
  have HM := Lib.hid (strsAt_of hm).1
  clear hb hm
  go_wp2_with fail
  go_loopg [5, 10] parts.length (fun gg _ iv wr => ∃ i : Nat, iv = .int .i64 i ∧ i ≤ parts.length ∧ parts.length - i ≤ gg ∧ Hid (∀ j (h : j < parts.length), j < i → Pn.componentP parts[j] = true) ∧ Below w1.heap.size w1 wr)
  case atStart => exact ⟨0, rfl, Nat.zero_le _, by omega, fun _ _ h => absurd h (Nat.not_lt_zero _), Below.refl _ _⟩
  case round =>
    obtain ⟨i, rfl, hi, hgg, hall, hb⟩ := hrel
    have HB := Lib.hid hb
    clear hb
    by_cases hl : i < parts.length
    · have hlz : (i : Int) < (parts.length : Int) := by omega
      obtain ⟨g, rfl, hcell⟩ := (HM.out.below HB.out).get hl
      have hps := HPART.out _ (List.getElem_mem hl)
      obtain ⟨p, hp⟩ : ∃ p, parts[i] = p := ⟨_, rfl⟩
      rw [hp] at hcell hps
      have HP := Lib.hid hp
      clear hp
      have HC := Lib.hid (component_ref ⟨p.toArray⟩ wr hps)
      cases hq : Pn.componentP p with
      | false =>
        rw [show (⟨p.toArray⟩ : ByteArray).data.toList = p from rfl, hq] at HC
        have hall2 : parts.all Pn.componentP = false := by
          rw [List.all_eq_false]
          exact ⟨p, by rw [← HP.out]; exact List.getElem_mem hl, by rw [hq]; decide⟩
        have HF := Lib.hid (HV.out _ hall2)
        clear hall2 hq
        go_wp2_with fail
        refine HC.out.mono ?_
        rintro e w2 ⟨rfl, hb2⟩
        have HB2 := Lib.hid (below_then HB1.out (below_then HB.out hb2))
        clear hb2
        go_wp2_with fail
        go_ret
        exact ⟨by rw [HF.out, Bool.and_false]; rfl, HB2.out⟩
      | true =>
        rw [show (⟨p.toArray⟩ : ByteArray).data.toList = p from rfl, hq] at HC
        have HQ := Lib.hid hq
        clear hq
        go_wp2_with fail
        refine HC.out.mono ?_
        rintro e w2 ⟨rfl, hb2⟩
        have HB2 := Lib.hid (below_then HB.out hb2)
        clear hb2
        go_wp2_with fail
        go_roundg (parts.length - (i + 1))
        case measure => omega
        case rel =>
          refine ⟨i + 1, by go_num, by omega, Nat.le_refl _, fun j hj hji => ?_, HB2.out⟩
          by_cases e : j = i
          · subst e; rw [HP.out]; exact HQ.out
          · exact hall.out j hj (by omega)
    · have hlz : ¬ (i : Int) < (parts.length : Int) := by omega
      have hall2 : parts.all Pn.componentP = true := by
        rw [List.all_eq_true]
        intro x hx
        obtain ⟨j, hj, rfl⟩ := List.getElem_of_mem hx
        exact hall.out j hj (by omega)
      have HF := Lib.hid (HV.out _ hall2)
      clear hall2
      go_wp2_with fail
      all_goals go_ret
      all_goals refine ⟨?_, below_then HB1.out HB.out⟩
      all_goals rw [HF.out]
      all_goals refine congrArg (fun b => Ending.returned (Value.bool b)) ?_
      all_goals first
        | (have h1 : parts.length ≤ 16 := by omega
           have h2 : s.size ≤ 512 := by omega
           simp [h1, h2]; done)
        | (have h1 : ¬ parts.length ≤ 16 := by omega
           simp [h1]; done)
        | (have h2 : ¬ s.size ≤ 512 := by omega
           simp [h2]; done)
        | (have h1 : parts.length ≤ 16 := by omega
           by_cases h2 : s.size ≤ 512
           · have h3 : (s.size : Int) ≤ 512 := by omega
             simp [h1, h2, h3]
           · have h3 : ¬ (s.size : Int) ≤ 512 := by omega
             simp [h2, h3])
        | trace_state

/-- rank. -/
theorem rank_ref (b : UInt8) (w : World) : Calls Tryd.prog 46 #[.int .u8 b.toNat] w fun e w' => e = .returned (.int .i64 (Pn.rankP b)) ∧ w = w' := by
  have hb := b.toNat_lt
  unfold Pn.rankP
  by_cases h : b = 47
  · subst h
    go_enter Tryd.func46, Tryd.ntmps46
    go_wp2
    go_ret
    exact ⟨rfl, rfl⟩
  · have h1 : (((b.toNat : Nat) : Int) == 47) = false := byte_other h
    rw [if_neg h]
    go_enter Tryd.func46, Tryd.ntmps46
    go_wp2
    go_ret
    exact ⟨by first | rfl | (refine reti ?_; simp), rfl⟩

theorem rank_quiet (b : UInt8) (w : World) (nn : Nat) : Calls Tryd.prog 46 #[.int .u8 b.toNat] (w.drewN nn) fun e w' => e = .returned (.int .i64 (Pn.rankP b)) ∧ ∃ m, w' = w.drewN m :=
  (rank_ref b (w.drewN nn)).mono (by rintro e w' ⟨rfl, rfl⟩; exact ⟨rfl, nn, rfl⟩)

theorem drew_below {B : Nat} {w x : World} (h : Below B w x) (n : Nat) : Below B w (x.drewN n) := ⟨h.os, h.tape, h.output, h.size, h.block⟩

theorem cmp_stop (a b : Pn.B) (i : Nat) (ha : i ≤ a.length) (_hb : i ≤ b.length) (h : ¬ (i < a.length ∧ i < b.length)) : Pn.cmpP (a.drop i) (b.drop i) = if a.length < b.length then -1 else if b.length < a.length then 1 else 0 := by
  by_cases h1 : i < a.length
  · have h2 : b.length = i := by omega
    rw [List.drop_eq_nil_of_le (by omega : b.length ≤ i), List.drop_eq_getElem_cons h1, if_neg (by omega), if_pos (by omega)]; rfl
  · rw [List.drop_eq_nil_of_le (by omega : a.length ≤ i)]
    by_cases h2 : i < b.length
    · rw [List.drop_eq_getElem_cons h2, if_pos (by omega)]; rfl
    · rw [List.drop_eq_nil_of_le (by omega : b.length ≤ i), if_neg (by omega), if_neg (by omega)]; rfl

set_option maxHeartbeats 1000000 in
set_option maxRecDepth 1000000 in
theorem compare_ref (a b : ByteArray) (w : World) (ha : a.size < 4294967280) (_hb : b.size < 4294967280) :
    Calls Tryd.prog 23 #[.string a, .string b] w fun e w' => e = .returned (.int .i64 (Pn.cmpP a.data.toList b.data.toList)) ∧ Below w.heap.size w w' := by
  have haz := size_eq a
  have hbz := size_eq b
  go_enter Tryd.func23, Tryd.ntmps23
  go_wp2_with fail
  go_loopg [5] a.size (fun gg iv wr => ∃ i : Nat, iv = .int .i64 i ∧ i ≤ a.size ∧ i ≤ b.size ∧ a.size - i ≤ gg ∧ Hid (Pn.cmpP (a.data.toList.drop i) (b.data.toList.drop i) = Pn.cmpP a.data.toList b.data.toList) ∧ Below w.heap.size w wr)
  case atStart => exact ⟨0, rfl, Nat.zero_le _, Nat.zero_le _, by omega, rfl, Below.refl _ _⟩
  case round =>
    obtain ⟨i, rfl, hi1, hi2, hgg, hc, hB⟩ := hrel
    have HB := Lib.hid hB
    clear hB
    by_cases hl : i < a.size ∧ i < b.size
    · obtain ⟨hl1, hl2⟩ := hl
      have hz1 : (i : Int) < (a.size : Int) := by omega
      have hz2 : (i : Int) < (b.size : Int) := by omega
      have hl1' : i < a.data.toList.length := by omega
      have hl2' : i < b.data.toList.length := by omega
      obtain ⟨x, hx⟩ : ∃ x, a.data.toList[i]'hl1' = x := ⟨_, rfl⟩
      obtain ⟨y, hy⟩ : ∃ y, b.data.toList[i]'hl2' = y := ⟨_, rfl⟩
      have e0 : a[i]'hl1 = x := by rw [← hx]; simp [ByteArray.getElem_eq_getElem_data]
      have e1 : b[i]'hl2 = y := by rw [← hy]; simp [ByteArray.getElem_eq_getElem_data]
      have hst := cmp_step a.data.toList b.data.toList i hl1' hl2'
      rw [hc.out, hx, hy] at hst
      unfold compareInt at hst
      have HR := Lib.hid rank_ref
      clear hc hx hy haz hbz
      generalize hrx : Pn.rankP x = rx at *
      generalize hry : Pn.rankP y = ry at *
      have HRX := Lib.hid fun W nn => rank_quiet x W nn
      have HRY := Lib.hid fun W nn => rank_quiet y W nn
      rw [hrx] at HRX
      rw [hry] at HRY
      have HST := Lib.hid hst
      clear hst hrx hry
      by_cases h1 : rx < ry
      · have hc2 : Pn.cmpP a.data.toList b.data.toList = -1 := by rw [HST.out]; simp [h1]
        have HC2 := Lib.hid hc2
        clear hc2
        go_wp2_with fail
        go_quiet (first | (go_at_call 46; exact HRX.out _ _) | (go_at_call 46; exact HRY.out _ _))
        go_wp2_with fail
        go_ret
        exact ⟨by rw [HC2.out]; rfl, by first | exact drew_below HBQ.out _ | exact drew_below HB.out _⟩
      · by_cases h2 : ry < rx
        · have hc2 : Pn.cmpP a.data.toList b.data.toList = 1 := by rw [HST.out]; simp [h1, h2]
          have HC2 := Lib.hid hc2
          clear hc2
          go_wp2_with fail
          go_quiet (first | (go_at_call 46; exact HRX.out _ _) | (go_at_call 46; exact HRY.out _ _))
          have HBQ := Lib.hid (drew_below HB.out nq)
          generalize wr.drewN nq = W2 at *
          go_wp2_with fail
          go_quiet (first | (go_at_call 46; exact HRX.out _ _) | (go_at_call 46; exact HRY.out _ _))
          go_wp2_with fail
          go_ret
          exact ⟨by rw [HC2.out]; rfl, by first | exact drew_below HBQ.out _ | exact drew_below HB.out _⟩
        · have hc2 : Pn.cmpP (a.data.toList.drop (i + 1)) (b.data.toList.drop (i + 1)) = Pn.cmpP a.data.toList b.data.toList := by rw [HST.out]; simp [h1, h2]
          have HC2 := Lib.hid hc2
          clear hc2
          go_wp2_with fail
          go_quiet (first | (go_at_call 46; exact HRX.out _ _) | (go_at_call 46; exact HRY.out _ _))
          have HBQ := Lib.hid (drew_below HB.out nq)
          generalize wr.drewN nq = W2 at *
          go_wp2_with fail
          go_quiet (first | (go_at_call 46; exact HRX.out _ _) | (go_at_call 46; exact HRY.out _ _))
          go_wp2_with fail
          go_roundg (a.size - (i + 1))
          case measure => omega
          case rel => exact ⟨i + 1, by go_num, by omega, by omega, Nat.le_refl _, HC2.out, by first | exact drew_below HBQ.out _ | exact drew_below HB.out _⟩
    · have hfin := cmp_stop a.data.toList b.data.toList i (by omega) (by omega) (by omega)
      rw [hc.out, ← haz, ← hbz] at hfin
      have HF := Lib.hid hfin
      clear hfin hc haz hbz
      by_cases hl1 : i < a.size
      · have hz1 : (i : Int) < (a.size : Int) := by omega
        have hz2 : ¬ (i : Int) < (b.size : Int) := by omega
        have hz3 : ¬ (a.size : Int) < (b.size : Int) := by omega
        have hz4 : (b.size : Int) < (a.size : Int) := by omega
        have HF2 := Lib.hid (HF.out.trans (by rw [if_neg (by omega), if_pos (by omega)]) : _ = (1 : Int))
        clear hl
        go_wp2_with fail
        go_ret
        exact ⟨by rw [HF2.out]; rfl, HB.out⟩
      · have hz1 : ¬ (i : Int) < (a.size : Int) := by omega
        by_cases hl2 : i < b.size
        · have hz3 : (a.size : Int) < (b.size : Int) := by omega
          have HF2 := Lib.hid (HF.out.trans (by rw [if_pos (by omega)]) : _ = (-1 : Int))
          clear hl
          go_wp2_with fail
          go_ret
          exact ⟨by rw [HF2.out]; rfl, HB.out⟩
        · have hz3 : ¬ (a.size : Int) < (b.size : Int) := by omega
          have hz4 : ¬ (b.size : Int) < (a.size : Int) := by omega
          have HF2 := Lib.hid (HF.out.trans (by rw [if_neg (by omega), if_neg (by omega)]) : _ = (0 : Int))
          clear hl
          go_wp2_with fail
          go_ret
          exact ⟨by rw [HF2.out]; rfl, HB.out⟩

theorem byte_at (s : ByteArray) (i : Nat) (h : i < s.size) (h' : i < s.data.toList.length) : s[i]'h = s.data.toList[i]'h' := by simp [ByteArray.getElem_eq_getElem_data]

theorem prefix_longer {d s : Pn.B} (h : d.length < s.length) : (d ++ [47]).isPrefixOf s = (s.take d.length == d && s[d.length] == 47) := by
  rw [Bool.eq_iff_iff, List.isPrefixOf_iff_prefix, Bool.and_eq_true, beq_iff_eq, beq_iff_eq]
  constructor
  · rintro ⟨t, rfl⟩
    simp
  · rintro ⟨h1, h2⟩
    refine ⟨s.drop (d.length + 1), ?_⟩
    have h3 : s.drop d.length = 47 :: s.drop (d.length + 1) := by rw [List.drop_eq_getElem_cons h, h2]
    have h4 := List.take_append_drop d.length s
    rw [h1, h3] at h4
    simpa using h4

theorem prefix_short {d s : Pn.B} (h : ¬ d.length < s.length) : (d ++ [47]).isPrefixOf s = false := by
  rw [Bool.eq_false_iff]
  intro hp
  obtain ⟨t, rfl⟩ := List.isPrefixOf_iff_prefix.1 hp
  simp at h

set_option maxHeartbeats 1000000 in
set_option maxRecDepth 100000 in
theorem within_ref (d s : ByteArray) (w : World) (hd : d.size < 4294967280) (hs : s.size < 4294967280) :
    Calls Tryd.prog 25 #[.string d, .string s] w fun e w' => e = .returned (.bool (Pn.withinP d.data.toList s.data.toList)) ∧ Below w.heap.size w w' := by
  have V1 := Lib.hid fun w => valid_ref s w hs
  have V2 := Lib.hid fun w => valid_ref d w hd
  have B0 := Lib.hid (Below.refl w.heap.size w)
  have hdz := size_eq d
  have hsz := size_eq s
  unfold Pn.withinP
  cases hvs : Pn.validP s.data.toList with
  | false =>
    rw [hvs] at V1
    clear hvs
    try clear hsz
    try clear hdz
    go_enter Tryd.func25, Tryd.ntmps25
    go_wp2_with fail
    refine (V1.out _).mono ?_
    rintro e w1 ⟨rfl, hb⟩
    have B1 := Lib.hid (below_then B0.out hb)
    clear hb
    go_wp2_with fail
    go_ret
    exact ⟨rfl, B1.out⟩
  | true =>
    rw [hvs] at V1
    clear hvs
    by_cases hde : d.data.toList = []
    · have hde2 : (d.toList == []) = true := by rw [toList_data, hde]; rfl
      have hd0 : d.size = 0 := by rw [hdz, hde]; rfl
      have hd1 : ((d.size : Int) == 0) = true := by rw [hd0]; rfl
      rw [hde]
      clear hde hd0
      try clear hsz
      try clear hdz
      go_enter Tryd.func25, Tryd.ntmps25
      go_wp2_with fail
      refine (V1.out _).mono ?_
      rintro e w1 ⟨rfl, hb⟩
      have B1 := Lib.hid (below_then B0.out hb)
      clear hb
      go_wp2_with fail
      go_ret
      exact ⟨rfl, B1.out⟩
    · have hde2 : (d.toList == []) = false := by rw [toList_data, beq_eq_false_iff_ne]; exact hde
      have hdi : d.data.toList.isEmpty = false := by rw [List.isEmpty_eq_false_iff]; exact hde
      have hd0 : 0 < d.size := by rw [hdz]; exact List.length_pos_iff.2 hde
      have hd1 : ((d.size : Int) == 0) = false := by rw [beq_eq_false_iff_ne]; omega
      rw [hdi]
      cases hvd : Pn.validP d.data.toList with
      | false =>
        rw [hvd] at V2
        clear hvd hde hdi
        try clear hsz
        try clear hdz
        go_enter Tryd.func25, Tryd.ntmps25
        go_wp2_with fail
        refine (V1.out _).mono ?_
        rintro e w1 ⟨rfl, hb⟩
        have B1 := Lib.hid (below_then B0.out hb)
        clear hb
        go_wp2_with fail
        refine (V2.out _).mono ?_
        rintro e w2 ⟨rfl, hb⟩
        have B2 := Lib.hid (below_then B1.out hb)
        clear hb
        go_wp2_with fail
        go_ret
        exact ⟨rfl, B2.out⟩
      | true =>
        rw [hvd] at V2
        have heq : (s.toList == d.toList) = (s.data.toList == d.data.toList) := by rw [toList_data, toList_data]
        clear hvd hde hdi
        cases he : (s.data.toList == d.data.toList) with
        | true =>
          rw [he] at heq
          clear he
          try clear hsz
          try clear hdz
          go_enter Tryd.func25, Tryd.ntmps25
          go_wp2_with fail
          refine (V1.out _).mono ?_
          rintro e w1 ⟨rfl, hb⟩
          have B1 := Lib.hid (below_then B0.out hb)
          clear hb
          go_wp2_with fail
          refine (V2.out _).mono ?_
          rintro e w2 ⟨rfl, hb⟩
          have B2 := Lib.hid (below_then B1.out hb)
          clear hb
          go_wp2_with fail
          go_ret
          exact ⟨rfl, B2.out⟩
        | false =>
          rw [he] at heq
          by_cases hl : d.size < s.size
          · have hlz : (d.size : Int) < (s.size : Int) := by omega
            have hl' : d.data.toList.length < s.data.toList.length := by omega
            rw [prefix_longer hl']
            obtain ⟨x, hx⟩ : ∃ x, s.data.toList[d.data.toList.length]'hl' = x := ⟨_, rfl⟩
            have e0 : s[d.size]'hl = x := by
              rw [byte_at s d.size hl (by omega), ← hx]
              apply Option.some.inj
              rw [← List.getElem?_eq_getElem, ← List.getElem?_eq_getElem, hdz]
            have e1 : ((s.extract 0 d.size).toList == d.toList) = (s.data.toList.take d.data.toList.length == d.data.toList) := by
              have hx := str_slice s 0 d.size
              injection hx with hx
              rw [hx, toList_data, toList_data]
              show ((s.data.toList.drop 0).take (d.size - 0) == d.data.toList) = _
              rw [List.drop_zero, Nat.sub_zero, hdz]
            rw [hx]
            clear hx he
            generalize (s.data.toList.take d.data.toList.length == d.data.toList) = q at *
            cases q with
            | false =>
              try clear hsz
              try clear hdz
              go_enter Tryd.func25, Tryd.ntmps25
              go_wp2_with fail
              refine (V1.out _).mono ?_
              rintro e w1 ⟨rfl, hb⟩
              have B1 := Lib.hid (below_then B0.out hb)
              clear hb
              go_wp2_with fail
              refine (V2.out _).mono ?_
              rintro e w2 ⟨rfl, hb⟩
              have B2 := Lib.hid (below_then B1.out hb)
              clear hb
              go_wp2_with fail
              go_ret
              exact ⟨rfl, B2.out⟩
            | true =>
              by_cases h47 : x = 47
              · subst h47
                try clear hsz
                try clear hdz
                go_enter Tryd.func25, Tryd.ntmps25
                go_wp2_with fail
                refine (V1.out _).mono ?_
                rintro e w1 ⟨rfl, hb⟩
                have B1 := Lib.hid (below_then B0.out hb)
                clear hb
                go_wp2_with fail
                refine (V2.out _).mono ?_
                rintro e w2 ⟨rfl, hb⟩
                have B2 := Lib.hid (below_then B1.out hb)
                clear hb
                go_wp2_with fail
                go_ret
                exact ⟨rfl, B2.out⟩
              · have hx47 : ((x.toNat : Int) == 47) = false := byte_other h47
                have hx48 : (x == 47) = false := by rw [beq_eq_false_iff_ne]; exact h47
                rw [hx48]
                try clear hsz
                try clear hdz
                go_enter Tryd.func25, Tryd.ntmps25
                go_wp2_with fail
                refine (V1.out _).mono ?_
                rintro e w1 ⟨rfl, hb⟩
                have B1 := Lib.hid (below_then B0.out hb)
                clear hb
                go_wp2_with fail
                refine (V2.out _).mono ?_
                rintro e w2 ⟨rfl, hb⟩
                have B2 := Lib.hid (below_then B1.out hb)
                clear hb
                go_wp2_with fail
                go_ret
                exact ⟨rfl, B2.out⟩
          · have hlz : ¬ (d.size : Int) < (s.size : Int) := by omega
            rw [prefix_short (by omega)]
            clear he
            try clear hsz
            try clear hdz
            go_enter Tryd.func25, Tryd.ntmps25
            go_wp2_with fail
            refine (V1.out _).mono ?_
            rintro e w1 ⟨rfl, hb⟩
            have B1 := Lib.hid (below_then B0.out hb)
            clear hb
            go_wp2_with fail
            refine (V2.out _).mono ?_
            rintro e w2 ⟨rfl, hb⟩
            have B2 := Lib.hid (below_then B1.out hb)
            clear hb
            go_wp2_with fail
            go_ret
            exact ⟨rfl, B2.out⟩

end Go.Proofs.YtdnbmkfmckppaaaDoor
