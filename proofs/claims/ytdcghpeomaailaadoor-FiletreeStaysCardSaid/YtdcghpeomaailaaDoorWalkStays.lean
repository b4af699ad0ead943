/-
  The walk of kinkeeplaw20.FiletreeStays: it answers true.
-/
import Derived.Test.YtdcghpeomaailaaDoorFtLawP
import Derived.Test.YtdcghpeomaailaaDoorFtLawS
import Derived.Test.YtdcghpeomaailaaDoorFtEqual
namespace Go.Proofs.YtdcghpeomaailaaDoor
open Go.RowKit Go.Lib Ft

def StaysRel (l : List OpE) (tb mb : Nat) (w : World) (v : Value) (gg : Nat) (wr : World) : Prop :=
  ∃ i : Nat, v = .int .i64 i ∧ i ≤ l.length ∧ l.length - i ≤ gg ∧ NewTree w wr tb mb (playP (l.take i))

theorem ents_ok {t : List Ent} (h : ∀ e ∈ t, e.valid = true) : t.length ≤ 4096 → ∀ e ∈ t, e.path.length < 4294967281 ∧ e.link.length < 4294967281 := fun _ e he => by
  have h1 := valid_path_len (h e he)
  have h2 := valid_link_len (h e he)
  exact ⟨by omega, by omega⟩

set_option maxHeartbeats 8000000 in
set_option maxRecDepth 100000 in
theorem stays_any (l : List OpE) (va : Option Addr) (vc : Nat) (w : World) (hl : l.length ≤ 9223372036854775807) (hE : Env w) (hA : OpsAt w va l) :
    Calls Tryd.prog 9 #[.slice va l.length vc] w fun e' w' => e' = .returned (.bool true) ∧ Below w.heap.size w w' := by
  have HAW := Lib.hid (awake_any _ hE)
  have HE := Lib.hid hE
  have HA := Lib.hid hA
  have HWD := Lib.hid fun w h => wide_any l va vc w hl h
  have HN := Lib.hid fun w => new_any w
  clear hE hA
  go_enter Tryd.func9, Tryd.ntmps9
  go_wp2_with fail
  refine HAW.out.mono ?_
  rintro e' w1 ⟨rfl, hb⟩
  have B1 := Lib.hid hb
  clear hb
  go_wp2_with fail
  refine (HWD.out w1 (HA.out.below B1.out)).mono ?_
  rintro e' w2 ⟨rfl, hb⟩
  have B2 := Lib.hid (below_then B1.out hb)
  clear hb
  cases hwd : wideP l with
  | true =>
    go_wp2_with fail
    go_ret
    exact ⟨rfl, B2.out⟩
  | false =>
    obtain ⟨hl30, hbigs⟩ := wide_not hwd
    have HOK := Lib.hid fun x (hx : x ∈ l) => okOp (hbigs x hx)
    clear hwd hbigs
    go_wp2_with fail
    refine (HN.out w2).mono ?_
    rintro e' w3 ⟨tb, mb, rfl, hT, hb, h1, h2⟩
    have N3 := Lib.hid (show NewTree w w3 tb mb (playP (l.take 0)) from ⟨hT, below_then B2.out hb, Nat.le_trans B2.out.size h1, Nat.le_trans B2.out.size h2⟩)
    have HEN := Lib.hid fun (t : List Ent) w (h : TreeMem w tb mb t) (hE : Env w) => entries_any t tb mb w h hE
    unfold EntsOut at HEN
    have HEQ := Lib.hid fun (t u : List Ent) (tb1 mb1 tb2 mb2 : Nat) w h h2 => equal_any t u tb1 mb1 tb2 mb2 w h h2
    clear hT hb h1 h2
    go_wp2_with fail
    go_loopg [17] l.length (fun gg v wr => StaysRel l tb mb w v gg wr)
    case atStart => exact ⟨0, rfl, Nat.zero_le _, by omega, N3.out⟩
    case round =>
      obtain ⟨i, rfl, hi, hgg, hn⟩ := hrel
      by_cases hlt : i < l.length
      · have hz : (i : Int) < (l.length : Int) := by omega
        obtain ⟨g, off, da, dc, rfl, hg, r0, r1, r2, r3, r4, r5, r6, r7, r8, r9, hdc, hby⟩ := (HA.out.below hn.below).get hlt
        have hpt := play_take l hlt
        have hok := HOK.out _ (List.getElem_mem hlt)
        obtain ⟨x, hx⟩ : ∃ x, l[i] = x := ⟨_, rfl⟩
        rw [hx] at r0 r1 r2 r3 r4 r5 r6 r7 r8 r9 hby hpt hok
        obtain ⟨t, ht⟩ : ∃ t, playP (l.take i) = t := ⟨_, rfl⟩
        have HTT := Lib.hid (show Tree t from ht ▸ play_tree (l.take i))
        rw [ht] at hn hpt
        have hA1 : Below wr.heap.size wr (wr.alloc (.cells #[.int .i64 x.kind, S x.entry.path, .int .i64 x.entry.kind, .int .i64 x.entry.mode, .int .i64 x.entry.time, .slice da x.entry.data.length dc, S x.entry.link, S x.src, S x.dst, .bool x.below] 64)) := (Below.refl _ _).alloc (Nat.le_refl _) _
        have HCL := Lib.hid (clone_tree t tb mb _ (hn.tree.below hA1))
        unfold PlayOk at HCL
        have NN := Lib.hid (hn.grow hA1)
        have HQ := Lib.hid (heap_alloc_new wr (.cells #[.int .i64 x.kind, S x.entry.path, .int .i64 x.entry.kind, .int .i64 x.entry.mode, .int .i64 x.entry.time, .slice da x.entry.data.length dc, S x.entry.link, S x.src, S x.dst, .bool x.below] 64))
        have HBY := Lib.hid (hby.below hA1)
        have HPT := Lib.hid hpt
        have HOKX := Lib.hid hok
        have hzA : (wr.alloc (.cells #[.int .i64 x.kind, S x.entry.path, .int .i64 x.entry.kind, .int .i64 x.entry.mode, .int .i64 x.entry.time, .slice da x.entry.data.length dc, S x.entry.link, S x.src, S x.dst, .bool x.below] 64)).heap.size = wr.heap.size + 1 := by simp
        have HZA := Lib.hid hzA
        clear hx hby hn hA1 hpt hok ht hzA
        go_wp2_with fail
        refine HCL.out.mono ?_
        rintro e' w4 ⟨tb2, mb2, rfl, hc⟩
        have hq4 := (hc.below.block wr.heap.size (by rw [HZA.out]; omega)).trans HQ.out
        have a0 := cell_of_block' hq4 0
        have a1 := cell_of_block' hq4 1
        have a2 := cell_of_block' hq4 2
        have a3 := cell_of_block' hq4 3
        have a4 := cell_of_block' hq4 4
        have a5 := cell_of_block' hq4 5
        have a6 := cell_of_block' hq4 6
        have a7 := cell_of_block' hq4 7
        have a8 := cell_of_block' hq4 8
        have a9 := cell_of_block' hq4 9
        simp at a0 a1 a2 a3 a4 a5 a6 a7 a8 a9
        have N4 := Lib.hid (NN.out.grow hc.below)
        have C4 := Lib.hid hc.tree
        have hne : mb ≠ mb2 := by
          have h1 := NN.out.tree.mb_lt
          have h2 := hc.mb
          omega
        have HD := Lib.hid (do_any t tb mb x da dc w4 N4.out.tree (HE.out.below N4.out.below) HOKX.out (HBY.out.below hc.below))
        unfold OpOk at HD
        clear hq4 hc
        go_wp2_with fail
        refine HD.out.mono ?_
        rintro e' w5 ⟨rfl, hT5, hg5⟩
        have N5 := Lib.hid (N4.out.op hT5 hg5)
        have C5 := Lib.hid (C4.out.kept hg5 (by
          rintro r e; cases e
          exact ⟨N4.out.tree.noCells, hne⟩))
        have HTT5 := Lib.hid (do_tree HTT.out x)
        have HER := Lib.hid fun h => do_err (t := t) (x := x) h
        clear hT5 hg5 a0 a1 a2 a3 a4 a5 a6 a7 a8 a9
        rw [← HPT.out] at N5 HTT5
        by_cases hz0 : (doP t x).2 = 0
        · have hq : ((doP t x).2 == 0) = true := by rw [hz0]; rfl
          have hqn : ((doP t x).2 != 0) = false := by rw [hz0]; rfl
          clear hz0
          obtain ⟨t5, ht5⟩ : ∃ t5, playP (l.take (i + 1)) = t5 := ⟨_, rfl⟩
          rw [ht5] at N5 HTT5
          have HT5E := Lib.hid ht5
          have htl := N5.out.tree.few
          have hck := check_tree HTT5.out htl
          have HOKE := Lib.hid (ents_ok HTT5.out.good)
          have HEN5 := Lib.hid (HEN.out t5 w5 N5.out.tree (HE.out.below N5.out.below))
          have HCK := Lib.hid fun va vc W h h2 => check_any t5 va vc W h h2 HOKE.out
          rw [hck] at HCK
          clear hck ht5
          go_wp2_with fail
          refine HEN5.out.mono ?_
          rintro e' w6 ⟨va6, vc6, l6, rfl, hnew6, hl6, hb⟩
          have hat6 := hnew6.at
          rw [hl6] at hat6
          have N6 := Lib.hid (N5.out.grow hb)
          have HCK6 := Lib.hid (HCK.out va6 vc6 w6 (HE.out.below N6.out.below) hat6)
          clear hb hnew6 hl6 hat6
          go_wp2_with fail
          refine HCK6.out.mono ?_
          rintro e' w7 ⟨rfl, hb⟩
          have N7 := Lib.hid (N6.out.grow hb)
          clear hb
          go_wp2_with fail
          go_roundg (l.length - (i + 1))
          case measure => omega
          case rel => exact ⟨i + 1, by go_num, by omega, by omega, by rw [HT5E.out]; exact N7.out⟩
        · have hq : ((doP t x).2 == 0) = false := beq_eq_false_iff_ne.2 hz0
          have hqn : ((doP t x).2 != 0) = true := by rw [bne_iff_ne]; exact hz0
          have hsame := HER.out hz0
          rw [← HPT.out] at hsame
          have hEQ := HEQ.out t t tb mb tb2 mb2 w5 (hsame ▸ N5.out.tree) C5.out
          simp only [decide_true] at hEQ
          have HEQ5 := Lib.hid hEQ
          obtain ⟨t5, ht5⟩ : ∃ t5, playP (l.take (i + 1)) = t5 := ⟨_, rfl⟩
          rw [ht5] at N5 HTT5
          have HT5E := Lib.hid ht5
          have htl := N5.out.tree.few
          have hck := check_tree HTT5.out htl
          have HOKE := Lib.hid (ents_ok HTT5.out.good)
          have HCK := Lib.hid fun va vc W h h2 => check_any t5 va vc W h h2 HOKE.out
          rw [hck] at HCK
          clear hz0 hsame hEQ hck ht5
          go_wp2_with fail
          refine HEQ5.out.mono ?_
          rintro e' w5' ⟨rfl, hb⟩
          have N5' := Lib.hid (N5.out.grow hb)
          have HEN5 := Lib.hid (HEN.out t5 w5' N5'.out.tree (HE.out.below N5'.out.below))
          clear hb
          go_wp2_with fail
          refine HEN5.out.mono ?_
          rintro e' w6 ⟨va6, vc6, l6, rfl, hnew6, hl6, hb⟩
          have hat6 := hnew6.at
          rw [hl6] at hat6
          have N6 := Lib.hid (N5'.out.grow hb)
          have HCK6 := Lib.hid (HCK.out va6 vc6 w6 (HE.out.below N6.out.below) hat6)
          clear hb hnew6 hl6 hat6
          go_wp2_with fail
          refine HCK6.out.mono ?_
          rintro e' w7 ⟨rfl, hb⟩
          have N7 := Lib.hid (N6.out.grow hb)
          clear hb
          go_wp2_with fail
          go_roundg (l.length - (i + 1))
          case measure => omega
          case rel => exact ⟨i + 1, by go_num, by omega, by omega, by rw [HT5E.out]; exact N7.out⟩
      · have hz : ¬ (i : Int) < (l.length : Int) := by omega
        obtain rfl : i = l.length := by omega
        rw [List.take_length] at hn
        have HTT := Lib.hid (play_tree l)
        generalize playP l = t at *
        have N4 := Lib.hid hn
        have htl := hn.tree.few
        have hck := check_tree HTT.out htl
        have HOKE := Lib.hid (ents_ok HTT.out.good)
        have HEN4 := Lib.hid (HEN.out t wr hn.tree (HE.out.below hn.below))
        have HFR := Lib.hid fun va vc W h h2 => from_any t va vc W h h2 HOKE.out
        unfold FromOk at HFR
        rw [hck] at HFR
        clear hn hck
        go_wp2_with fail
        refine HEN4.out.mono ?_
        rintro e' w5 ⟨va5, vc5, l5, rfl, hnew5, hl5, hb⟩
        have hat5 := hnew5.at
        rw [hl5] at hat5
        have N5 := Lib.hid (N4.out.grow hb)
        have HFR5 := Lib.hid (HFR.out va5 vc5 w5 (HE.out.below N5.out.below) hat5)
        clear hb hnew5 hl5 hat5
        go_wp2_with fail
        refine HFR5.out.mono ?_
        rintro e' w6 ⟨hb, ⟨h0, _⟩ | ⟨_, tb3, mb3, rfl, hT6, _, _⟩⟩
        · exact absurd rfl h0
        have N6 := Lib.hid (N5.out.grow hb)
        have C6 := Lib.hid hT6
        have hE1 := HEQ.out t t tb3 mb3 tb mb w6 hT6 N6.out.tree
        simp only [decide_true] at hE1
        have HE1 := Lib.hid hE1
        clear hb hT6 hE1
        go_wp2_with fail
        refine HE1.out.mono ?_
        rintro e' w7 ⟨rfl, hb⟩
        have N7 := Lib.hid (N6.out.grow hb)
        have hE2 := HEQ.out t t tb mb tb3 mb3 w7 N7.out.tree (C6.out.below hb)
        simp only [decide_true] at hE2
        have HE2 := Lib.hid hE2
        clear hb hE2
        go_wp2_with fail
        refine HE2.out.mono ?_
        rintro e' w8 ⟨rfl, hb⟩
        have N8 := Lib.hid (N7.out.grow hb)
        clear hb
        go_wp2_with fail
        go_ret
        exact ⟨rfl, N8.out.below⟩

end Go.Proofs.YtdcghpeomaailaaDoor
