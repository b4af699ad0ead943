/-
  The walks of kinkeepref18.Divide and Unite.
-/
import Derived.Test.YtdnbmkfmckppaaaDoorStrs
namespace Go.Proofs.YtdnbmkfmckppaaaDoor
open Go.RowKit Go.Lib

/-- Divide's loop: the parts so far, where the next part begins. -/
def DivRel (s : ByteArray) (w : World) (i : Nat) (out from_ : Value) (wr : World) : Prop :=
  ∃ (l : List Pn.B) (fr : Nat) (va : Option Addr) (vc : Nat), out = .slice va l.length vc ∧ from_ = .int .i64 fr ∧ l.length ≤ i ∧ StrsMem wr w.heap.size (.slice va l.length vc) l ∧ Below w.heap.size w wr ∧
    ((i ≤ s.size ∧ fr ≤ i ∧ (47 : UInt8) ∉ (s.data.toList.drop fr).take (i - fr) ∧ l ++ Pn.splitS 47 (s.data.toList.drop fr) = Pn.splitS 47 s.data.toList) ∨ (i = s.size + 1 ∧ l = Pn.splitS 47 s.data.toList))

theorem cut_at {l : Pn.B} {fr i : Nat} (hi : i < l.length) (hf : fr ≤ i) (hc : l[i] = 47) (hn : (47 : UInt8) ∉ (l.drop fr).take (i - fr)) :
    Pn.splitS 47 (l.drop fr) = ((l.drop fr).take (i - fr)) :: Pn.splitS 47 (l.drop (i + 1)) := by
  have h : l.drop fr = (l.drop fr).take (i - fr) ++ 47 :: l.drop (i + 1) := by
    have h1 : l.drop i = 47 :: l.drop (i + 1) := by rw [List.drop_eq_getElem_cons hi, hc]
    rw [← h1]
    have := List.take_append_drop (i - fr) (l.drop fr)
    rw [List.drop_drop, show fr + (i - fr) = i by omega] at this
    exact this.symm
  conv => lhs; rw [h]
  rw [Pn.splitS_append, Pn.splitS_none hn]; rfl

theorem no_more {l : Pn.B} {fr i : Nat} (hi : i < l.length) (hf : fr ≤ i) (hc : l[i] ≠ 47) (hn : (47 : UInt8) ∉ (l.drop fr).take (i - fr)) : (47 : UInt8) ∉ (l.drop fr).take (i + 1 - fr) := by
  rw [show i + 1 - fr = (i - fr) + 1 by omega, List.take_succ_eq_append_getElem (by rw [List.length_drop]; omega)]
  simp only [List.mem_append, List.mem_singleton, not_or]
  refine ⟨hn, ?_⟩
  rw [List.getElem_drop]
  simp only [show fr + (i - fr) = i by omega]
  exact fun e => hc e.symm

theorem str_slice (s : ByteArray) (a b : Nat) : Value.string (s.extract a b) = S ((s.data.toList.drop a).take (b - a)) := by
  have h : s.extract a b = ⟨((s.data.toList.drop a).take (b - a)).toArray⟩ := by
    ext1
    rw [ByteArray.data_extract]
    apply Array.ext'
    simp [Array.toList_extract, List.extract_eq_take_drop]
  rw [h]

theorem byte_other {b c : UInt8} (h : b ≠ c) : ((b.toNat : Int) == (c.toNat : Int)) = false := by
  rw [beq_eq_false_iff_ne]
  intro e
  exact h (UInt8.toNat_inj.1 (by omega))

def DivideOk (s : ByteArray) (w : World) (e : Ending) (w' : World) : Prop :=
  Below w.heap.size w w' ∧ ∃ va vc, e = .returned (.slice va (Pn.splitS 47 s.data.toList).length vc) ∧ StrsMem w' w.heap.size (.slice va (Pn.splitS 47 s.data.toList).length vc) (Pn.splitS 47 s.data.toList)

set_option maxHeartbeats 1000000 in
set_option maxRecDepth 100000 in
theorem divide_any (s : ByteArray) (w : World) (hs : s.size < 4294967280) : Calls Tryd.prog 19 #[.string s] w (DivideOk s w) := by
  go_enter Tryd.func19, Tryd.ntmps19
  go_wp2
  go_loopg [3, 4, 5] (s.size + 1) (fun gg out fv iv wr => ∃ i : Nat, iv = .int .i64 i ∧ i ≤ s.size + 1 ∧ s.size + 1 - i ≤ gg ∧ DivRel s w i out fv wr)
  case atStart => exact ⟨0, rfl, Nat.zero_le _, by omega, [], 0, none, 0, rfl, rfl, Nat.le_refl _, World.ownsRow_nil _ _ _ _, Below.refl _ _, .inl ⟨Nat.zero_le _, Nat.le_refl _, by simp, by simp⟩⟩
  case round =>
    obtain ⟨i, rfl, hi, hgg, l, fr, va, vc, rfl, rfl, hll, hm, hB, hst⟩ := hrel
    have HB := Lib.hid hB
    have HM := Lib.hid hm
    clear hB hm
    rcases hst with ⟨hi2, hfr, hno, hsp⟩ | ⟨rfl, rfl⟩
    · have hlz : (i : Int) ≤ (s.size : Int) := by omega
      obtain ⟨p, hp⟩ : ∃ p, (s.data.toList.drop fr).take (i - fr) = p := ⟨_, rfl⟩
      have hsl : Value.string (s.extract fr i) = S p := by rw [str_slice s fr i, hp]
      obtain ⟨va', vc', w5, hrun, hm5, hB5⟩ := strs_app HM.out HB.out (Nat.le_refl _) HB.out.size p (by omega)
      rw [← hsl] at hrun
      have HM5 := Lib.hid hm5
      have HB5 := Lib.hid hB5
      have HRUN := Lib.hid hrun
      clear hm5 hB5 hrun hsl
      by_cases hl : i < s.size
      · have hle : ((i : Int) == (s.size : Int)) = false := by rw [beq_eq_false_iff_ne]; omega
        obtain ⟨b, hb⟩ : ∃ b, s.data.toList[i]'(by rw [← size_eq]; exact hl) = b := ⟨_, rfl⟩
        have e0 : s[i]'hl = b := by rw [← hb]; simp [ByteArray.getElem_eq_getElem_data]
        by_cases h47 : b = 47
        · subst h47
          rw [cut_at (by rw [← size_eq]; exact hl) hfr hb hno, hp] at hsp
          have HSP := Lib.hid hsp
          clear hsp hno hb hp
          go_wp2_with (at_builtin; refine wpList_append_run rfl _ _ 38 rfl _ _ rfl rfl _ _ rfl HRUN.out ?_)
          go_roundg (s.size - i)
          case measure => omega
          case rel =>
            exact ⟨i + 1, by go_num, by omega, by omega, l ++ [p], i + 1, va', vc', by simp, by go_num, by simp; omega, by simpa using HM5.out, HB5.out, .inl ⟨by omega, Nat.le_refl _, by simp, by rw [List.append_assoc]; exact HSP.out⟩⟩
        · have HNO := Lib.hid (no_more (by rw [← size_eq]; exact hl) hfr (by rw [hb]; exact h47) hno)
          have HSP := Lib.hid hsp
          have hbn : ((b.toNat : Int) == 47) = false := byte_other h47
          clear hsp hno hb hp h47
          go_wp2_with fail
          go_roundg (s.size - i)
          case measure => omega
          case rel =>
            exact ⟨i + 1, by go_num, by omega, by omega, l, fr, va, vc, rfl, rfl, by omega, HM.out, HB.out, .inl ⟨by omega, by omega, HNO.out, HSP.out⟩⟩
      · have hle : ((i : Int) == (s.size : Int)) = true := by rw [beq_iff_eq]; omega
        have hfin : l ++ [p] = Pn.splitS 47 s.data.toList := by
          have hz : (s.data.toList.drop fr).take (i - fr) = s.data.toList.drop fr := by
            apply List.take_of_length_le
            rw [List.length_drop, ← size_eq]; omega
          rw [hz] at hp hno
          rw [← hsp, Pn.splitS_none hno, hp]
        have HF := Lib.hid hfin
        clear hsp hno hp hfin
        go_wp2_with (at_builtin; refine wpList_append_run rfl _ _ 38 rfl _ _ rfl rfl _ _ rfl HRUN.out ?_)
        go_roundg (s.size - i)
        case measure => omega
        case rel =>
          exact ⟨i + 1, by go_num, by omega, by omega, l ++ [p], i + 1, va', vc', by simp, by go_num, by simp; omega, by simpa using HM5.out, HB5.out, .inr ⟨by omega, HF.out⟩⟩
    · have hlz : ¬ (((s.size + 1 : Nat) : Int) ≤ (s.size : Int)) := by omega
      go_wp2
      go_ret
      exact ⟨HB.out, va, vc, rfl, HM.out⟩

end Go.Proofs.YtdnbmkfmckppaaaDoor
