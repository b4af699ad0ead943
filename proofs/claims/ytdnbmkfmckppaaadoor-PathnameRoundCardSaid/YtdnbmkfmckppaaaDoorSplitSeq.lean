/-
  strings.SplitSeq at one byte: its contract for a range over it.
-/
import Derived.Test.YtdnbmkfmckppaaaDoorRangeBox
namespace Go.Proofs.YtdnbmkfmckppaaaDoor
open Go.RowKit Go.Lib Go.Shelf

attribute [local go_sem] Oper.semAt_some

theorem splitSeq_any (s : ByteArray) (c : UInt8) (w : World) :
    Calls Tryd.prog 48 #[.string s, .string ⟨#[c]⟩] w fun e w' => e = .returned (.func (.func 83) #[] #[.pointer (some ⟨w.heap.size + 1, 0, none⟩), .pointer (some ⟨w.heap.size, 0, none⟩), .pointer (some ⟨w.heap.size + 2, 0, none⟩)]) ∧
      w' = ((w.alloc (.cells #[.string s] 9)).alloc (.cells #[.string ⟨#[c]⟩] 9)).alloc (.cells #[.int .i64 0] 3) := by
  have h : ∀ w, Calls Tryd.prog 69 #[.string s, .string ⟨#[c]⟩, .int .i64 0] w fun e w' => e = .returned (.func (.func 83) #[] #[.pointer (some ⟨w.heap.size + 1, 0, none⟩), .pointer (some ⟨w.heap.size, 0, none⟩), .pointer (some ⟨w.heap.size + 2, 0, none⟩)]) ∧
      w' = ((w.alloc (.cells #[.string s] 9)).alloc (.cells #[.string ⟨#[c]⟩] 9)).alloc (.cells #[.int .i64 0] 3) := by
    intro w
    go_enter Tryd.func69, Tryd.ntmps69
    go_wp2
    go_ret
    exact ⟨rfl, rfl⟩
  have H := Lib.hid (h w)
  clear h
  go_enter Tryd.func48, Tryd.ntmps48
  go_wp2_with fail
  refine H.out.mono ?_
  rintro e w' ⟨rfl, hw⟩
  rw [hw]; clear hw
  go_wp2_with fail
  go_ret
  exact ⟨rfl, rfl⟩

/-- How much text is left. -/
def restSize (bs : Nat) (w : World) : Nat := match w.cell? ⟨bs, 0, none⟩ with
  | some (.string s) => s.size
  | _ => 0
theorem restSize_of {bs : Nat} {w : World} {s : ByteArray} (h : w.cell? ⟨bs, 0, none⟩ = some (.string s)) : restSize bs w = s.size := by unfold restSize; rw [h]

theorem index_list (c : UInt8) : ∀ l : Pn.B, (indexByte l c = -1 ∧ c ∉ l) ∨ ∃ i : Nat, i < l.length ∧ indexByte l c = i ∧ l = l.take i ++ c :: l.drop (i + 1) ∧ c ∉ l.take i
  | [] => .inl ⟨rfl, by simp⟩
  | x :: l => by
    by_cases h : x = c
    · subst h
      exact .inr ⟨0, by simp, by simp [indexByte], by simp, by simp⟩
    · have h' : (x == c) = false := beq_eq_false_iff_ne.2 h
      rcases index_list c l with ⟨h1, h2⟩ | ⟨i, h1, h2, h3, h4⟩
      · refine .inl ⟨by simp [indexByte, h', h1], ?_⟩
        intro hm
        rcases List.mem_cons.1 hm with e | e
        · exact h e.symm
        · exact h2 e
      · refine .inr ⟨i + 1, by simp; omega, ?_, ?_, ?_⟩
        · simp [indexByte, h', h2]
        · simp only [List.take_succ_cons, List.drop_succ_cons, List.cons_append]
          rw [← h3]
        · simp only [List.take_succ_cons, List.mem_cons, not_or]
          exact ⟨fun e => h e.symm, h4⟩

theorem extract_drop (s : ByteArray) (k : Nat) : (s.extract k s.size).data.toList = s.data.toList.drop k := by
  rw [extract_data, List.take_of_length_le (by rw [List.length_drop, size_eq]; omega)]

theorem index_cut (r : ByteArray) (c : UInt8) : (indexByte r.data.toList c = -1 ∧ Pn.splitS c r.data.toList = [r.data.toList]) ∨
    ∃ i : Nat, i < r.size ∧ indexByte r.data.toList c = i ∧ Pn.splitS c r.data.toList = (r.extract 0 i).data.toList :: Pn.splitS c (r.extract (i + 1) r.size).data.toList := by
  rcases index_list c r.data.toList with ⟨h1, h2⟩ | ⟨i, h1, h2, h3, h4⟩
  · exact .inl ⟨h1, Pn.splitS_none h2⟩
  · refine .inr ⟨i, by rw [size_eq]; exact h1, h2, ?_⟩
    rw [extract_from_zero, extract_drop]
    conv => lhs; rw [h3, Pn.splitS_append, Pn.splitS_none h4]
    rfl

/-- The three boxes lie as they lay. -/
def Box3 (bs : Nat) (W W' : World) : Prop := W'.heap[bs]? = W.heap[bs]? ∧ W'.heap[bs + 1]? = W.heap[bs + 1]? ∧ W'.heap[bs + 2]? = W.heap[bs + 2]?
theorem Box3.refl (bs : Nat) (W : World) : Box3 bs W W := ⟨rfl, rfl, rfl⟩
theorem Box3.trans {bs : Nat} {A B C : World} (h : Box3 bs A B) (k : Box3 bs B C) : Box3 bs A C := ⟨k.1.trans h.1, k.2.1.trans h.2.1, k.2.2.trans h.2.2⟩

theorem split_pre {pre : List ByteArray} {f r' s : ByteArray} {c : UInt8} (h : pre.map (·.data.toList) ++ f.data.toList :: Pn.splitS c r'.data.toList = Pn.splitS c s.data.toList) :
    ∃ xs : List ByteArray, xs.map (·.data.toList) = Pn.splitS c s.data.toList ∧ pre ++ [f] <+: xs := by
  refine ⟨pre ++ [f] ++ (Pn.splitS c r'.data.toList).map (fun l => ⟨l.toArray⟩), ?_, List.prefix_append _ _⟩
  rw [← h]
  simp [Function.comp_def]

set_option maxRecDepth 100000 in
set_option maxHeartbeats 2000000 in
theorem splitSeq1_in (n : Nat) (hn : 1 ≤ n) (l bs : Nat) (c : UInt8) (s : ByteArray) (hs : s.size < 4294967281) (J Jx : List ByteArray → World → Prop) (hJ : Bears bs J) (N : Nat) (hN : (Pn.splitS c s.data.toList).length ≤ N)
    (hY : ∀ pre x W, J pre W → pre.length < N → YieldAt Fence.wide (n - 1) Tryd.prog l #[.string x] W fun e W' =>
      (e = .returned (.bool true) ∧ J (pre ++ [x]) W' ∧ Box3 bs W W') ∨ (e = .returned (.bool false) ∧ Jx (pre ++ [x]) W'))
    (W : World) (h0 : W.heap[bs]? = some (.cells #[.string s] 9)) (h1 : W.heap[bs + 1]? = some (.cells #[.string ⟨#[c]⟩] 9)) (h2 : W.heap[bs + 2]? = some (.cells #[.int .i64 0] 3)) (hJ0 : J [] W) :
    CallsIn Fence.wide n Tryd.prog 83 #[.func (.yield l) #[] #[], .pointer (some ⟨bs + 1, 0, none⟩), .pointer (some ⟨bs, 0, none⟩), .pointer (some ⟨bs + 2, 0, none⟩)] W fun e W' => (∃ v, e = .returned v) ∧
      ((∃ xs, xs.map (·.data.toList) = Pn.splitS c s.data.toList ∧ J xs W') ∨ (∃ pre, (∃ xs, xs.map (·.data.toList) = Pn.splitS c s.data.toList ∧ pre <+: xs) ∧ Jx pre W')) := by
  have c1 := cell_of_block' h1 0
  simp at c1
  have H0 := Lib.hid h0
  have H1 := Lib.hid h1
  have H2 := Lib.hid h2
  clear h0 h1 h2
  refine callsIn_of_wp Tryd.func83 rfl trivial ?_ rfl
  simp only [Tryd.ntmps83, List.size_toArray, List.length_cons, List.length_nil, Nat.reduceAdd, Nat.reduceSub, Array.replicate_succ, Array.replicate_zero, List.push_toArray, List.append_toArray, List.nil_append, List.cons_append]
  gi_wp2
  gi_loopw [7, 8] (fun _ _ wr => ∃ (pre : List ByteArray) (r : ByteArray), pre.map (·.data.toList) ++ Pn.splitS c r.data.toList = Pn.splitS c s.data.toList ∧ J pre wr ∧ wr.heap[bs]? = some (.cells #[.string r] 9) ∧ wr.heap[bs + 1]? = some (.cells #[.string ⟨#[c]⟩] 9) ∧ wr.heap[bs + 2]? = some (.cells #[.int .i64 0] 3) ∧ r.size ≤ s.size) (fun _ _ wr => restSize bs wr)
  case atStart => exact ⟨[], s, by simp, hJ0, H0.out, H1.out, H2.out, Nat.le_refl _⟩
  case round =>
    obtain ⟨pre, r, hsp, hJs, b0, b1, b2, hrs⟩ := hrel
    have d0 := cell_of_block' b0 0
    have d1 := cell_of_block' b1 0
    have d2 := cell_of_block' b2 0
    simp at d0 d1 d2
    have hIx := Lib.hid fun w => Tryd.strings_Index_one r c w
    rcases index_cut r c with ⟨hi, hcut⟩ | ⟨i, hil, hi, hcut⟩
    · rw [hi] at hIx
      have hlen := congrArg List.length hsp
      rw [hcut] at hlen hsp
      simp at hlen
      obtain ⟨fn, tmps, assign, body, hy, hR⟩ := hY _ r wr hJs (by omega)
      have HSP := Lib.hid hsp
      clear hsp hcut hi
      gi_wp2_with fail
      refine ⟨trivial, (callsIn_wide.2 (hIx.out _)).mono ?_⟩
      rintro e w' ⟨rfl, hw⟩
      rw [hw]; clear hw
      gi_wp2_with fail
      refine hR.mono ?_
      rintro e W3 (⟨rfl, hJ3, hk3⟩ | ⟨rfl, hJx3⟩)
      · gi_wp2_with fail
        go_end0
        exact ⟨⟨_, rfl⟩, .inl ⟨pre ++ [r], by simpa using HSP.out, hJ3⟩⟩
      · gi_wp2_with fail
        go_end0
        exact ⟨⟨_, rfl⟩, .inr ⟨pre ++ [r], ⟨pre ++ [r], by simpa using HSP.out, List.prefix_refl _⟩, hJx3⟩⟩
    · rw [hi] at hIx
      have hlen := congrArg List.length hsp
      rw [hcut] at hlen hsp
      simp at hlen
      have hex : (r.extract (i + 1) r.size).size < r.size := by
        rw [size_eq (r.extract _ _), extract_drop, List.length_drop, ← size_eq]; omega
      obtain ⟨f, hf⟩ : ∃ f, r.extract 0 i = f := ⟨_, rfl⟩
      obtain ⟨r', hr'⟩ : ∃ r', r.extract (i + 1) r.size = r' := ⟨_, rfl⟩
      rw [hf, hr'] at hsp
      rw [hr'] at hex
      obtain ⟨fn, tmps, assign, body, hy, hR⟩ := hY _ f wr hJs (by omega)
      have HSP := Lib.hid hsp
      have b0' := b0
      have HB0 := Lib.hid b0'
      have HB1 := Lib.hid b1
      have HB2 := Lib.hid b2
      have hiw : IntKind.i64.wrap (i : Int) = (i : Int) := by rw [IntKind.wrap_i64]; omega
      have hil' : (i : Int) ≤ (r.size : Int) := by omega
      have HIL := Lib.hid hil
      have HEX := Lib.hid hex
      have HS := Lib.hid hs
      have HRS := Lib.hid hrs
      have HLEN := Lib.hid hlen
      clear hsp hcut hi b0 b1 b2 b0' hil hex hs hrs hlen
      gi_wp2_with fail
      refine ⟨trivial, (callsIn_wide.2 (hIx.out _)).mono ?_⟩
      rintro e w' ⟨rfl, hw⟩
      rw [hw]; clear hw
      gi_wp2_with fail
      refine hR.mono ?_
      rintro e W3 (⟨rfl, hJ3, hk3⟩ | ⟨rfl, hJx3⟩)
      · have g0 := hk3.1.trans HB0.out
        have g1 := hk3.2.1.trans HB1.out
        have g2 := hk3.2.2.trans HB2.out
        have d0 := cell_of_block' g0 0
        have d1 := cell_of_block' g1 0
        have d2 := cell_of_block' g2 0
        have f0 := free_of_block g0 0
        simp at d0 d1 d2
        have G0 := Lib.hid g0
        have G1 := Lib.hid g1
        have G2 := Lib.hid g2
        have hiw1 : IntKind.i64.wrap ((i : Int) + 1) = (i : Int) + 1 := by
          have := HIL.out; have := HS.out; have := HRS.out
          rw [IntKind.wrap_i64]; omega
        have hi1 : (i : Int) + 1 ≤ (r.size : Int) := by have := HIL.out; omega
        have hi10 : (0 : Int) ≤ (i : Int) + 1 := by omega
        clear g0 g1 g2
        gi_wp2_with fail
        have hnew : (W3.setCell ⟨bs, 0, none⟩ (.string r')).heap[bs]? = some (.cells #[.string r'] 9) := by rw [block_set G0.out 0 _]; rfl
        go_roundw
        case rel =>
          refine ⟨pre ++ [f], r', by simpa using HSP.out, hJ _ _ _ hJ3, hnew, ?_, ?_, Nat.le_trans (Nat.le_of_lt HEX.out) HRS.out⟩
          · rw [Below.heap_setCell _ _ _ _ (by simp)]; exact G1.out
          · rw [Below.heap_setCell _ _ _ _ (by simp)]; exact G2.out
        case measure =>
          rw [restSize_of (by rw [cell_of_block' hnew 0]; rfl), restSize_of (by rw [cell_of_block' HB0.out 0]; rfl)]; exact HEX.out
      · gi_wp2_with fail
        refine bodyPost_ret (results_none rfl _ _ _) rfl ?_
        exact ⟨⟨_, rfl⟩, .inr ⟨pre ++ [f], split_pre HSP.out, hJx3⟩⟩

/-- The value that SplitSeq hands back, as a range's iterator; bs: the block of the text. -/
theorem splitSeq_boxed (n : Nat) (hn : 1 ≤ n) (bs : Nat) (c : UInt8) (s : ByteArray) (hs : s.size < 4294967281) (w : World)
    (h0 : w.heap[bs]? = some (.cells #[.string s] 9)) (h1 : w.heap[bs + 1]? = some (.cells #[.string ⟨#[c]⟩] 9)) (h2 : w.heap[bs + 2]? = some (.cells #[.int .i64 0] 3)) :
    SeqBoxed Fence.wide n Tryd.prog 83 #[.pointer (some ⟨bs + 1, 0, none⟩), .pointer (some ⟨bs, 0, none⟩), .pointer (some ⟨bs + 2, 0, none⟩)] (fun x : ByteArray => #[Value.string x]) bs (Box3 bs) (fun xs => xs.map (·.data.toList) = Pn.splitS c s.data.toList)
      (fun pre => ∃ xs : List ByteArray, xs.map (·.data.toList) = Pn.splitS c s.data.toList ∧ pre <+: xs) (Pn.splitS c s.data.toList).length w := fun l J Jx W hW hJ _ hY hJ0 =>
  splitSeq1_in n hn l bs c s hs J Jx hJ _ (Nat.le_refl _) hY W ((hW.block _ (lt_of_block h0)).trans h0) ((hW.block _ (lt_of_block h1)).trans h1) ((hW.block _ (lt_of_block h2)).trans h2) hJ0

end Go.Proofs.YtdnbmkfmckppaaaDoor
