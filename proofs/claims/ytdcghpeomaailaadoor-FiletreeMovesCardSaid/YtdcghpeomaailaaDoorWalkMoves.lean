/-
  The walk of kinkeeplaw20.FiletreeMoves: it answers true.
-/
import Derived.Test.YtdcghpeomaailaaDoorFtBox
import Derived.Test.YtdcghpeomaailaaDoorFtLawS
import Derived.Test.YtdcghpeomaailaaDoorFtEqual
namespace Go.Proofs.YtdcghpeomaailaaDoor
open Go.RowKit Go.Lib Ft

set_option maxHeartbeats 8000000 in
set_option maxRecDepth 100000 in
theorem moves_any (l : List OpE) (va : Option Addr) (vc : Nat) (a b : Pn.B) (w : World) (hl : l.length ≤ 9223372036854775807) (hE : Env w) (hA : OpsAt w va l) :
    Calls Tryd.prog 7 #[.slice va l.length vc, S a, S b] w fun e' w' => e' = .returned (.bool true) ∧ Below w.heap.size w w' := by
  have HAW := Lib.hid (awake_any _ hE)
  have HE := Lib.hid hE
  have HA := Lib.hid hA
  have HWD := Lib.hid fun w h => wide_any l va vc w hl h
  clear hE hA
  go_enter Tryd.func7, Tryd.ntmps7
  go_wp2_with fail
  refine HAW.out.mono ?_
  rintro e' w1 ⟨rfl, hb⟩
  have B1 := Lib.hid hb
  clear hb
  go_wp2_with fail
  refine (HWD.out w1 (HA.out.below B1.out)).mono ?_
  rintro e' w2 ⟨rfl, hb⟩
  have B2 := Lib.hid (below_then B1.out hb)
  clear hb
  cases hwd : wideP l with
  | true =>
    go_wp2_with fail
    go_ret
    exact ⟨rfl, B2.out⟩
  | false =>
    obtain ⟨hl30, hbigs⟩ := wide_not hwd
    have HOK := Lib.hid fun x (hx : x ∈ l) => okOp (hbigs x hx)
    clear hwd hbigs
    by_cases hal : 600 < a.length
    · have q : (600 : Int) < (a.length : Int) := by omega
      go_wp2_with fail
      go_ret
      exact ⟨rfl, B2.out⟩
    · have q : ¬ (600 : Int) < (a.length : Int) := by omega
      by_cases hbl : 600 < b.length
      · have q2 : (600 : Int) < (b.length : Int) := by omega
        go_wp2_with fail
        go_ret
        exact ⟨rfl, B2.out⟩
      · have q2 : ¬ (600 : Int) < (b.length : Int) := by omega
        have HP := Lib.hid (play_any l va vc w2 (by omega) (HE.out.below B2.out) (HA.out.below B2.out) HOK.out)
        unfold PlayOk at HP
        have HTT := Lib.hid (play_tree l)
        generalize playP l = t at *
        go_wp2_with fail
        refine HP.out.mono ?_
        rintro e' w3 ⟨tb, mb, rfl, hn⟩
        have N3 := Lib.hid (show NewTree w w3 tb mb t from ⟨hn.tree, below_then B2.out hn.below, Nat.le_trans B2.out.size hn.tb, Nat.le_trans B2.out.size hn.mb⟩)
        have HCL := Lib.hid (clone_tree t tb mb _ hn.tree)
        unfold PlayOk at HCL
        have HEQ := Lib.hid fun (t u : List Ent) (tb1 mb1 tb2 mb2 : Nat) w h h2 => equal_any t u tb1 mb1 tb2 mb2 w h h2
        have HSZ := Lib.hid fun (t : List Ent) (p : Pn.B) w (h : TreeMem w tb mb t) (hE : Env w) (hp : p.length ≤ 600) => size_any t tb mb p w h hE (by omega)
        have HG := Lib.hid fun (t : List Ent) (p : Pn.B) w (h : TreeMem w tb mb t) (hp : p.length ≤ 600) => get_any t tb mb p w h (by omega)
        have HMV := Lib.hid fun (t : List Ent) (p q : Pn.B) w (h : TreeMem w tb mb t) (hE : Env w) (hp : p.length ≤ 600) (hq : q.length ≤ 600) => move_any t tb mb p q w h hE (by omega) (by omega)
        unfold OpOk at HMV
        clear hn
        go_wp2_with fail
        refine HCL.out.mono ?_
        rintro e' w4 ⟨tb2, mb2, rfl, hc⟩
        have N4 := Lib.hid (N3.out.grow hc.below)
        have C4 := Lib.hid hc.tree
        have hne : mb ≠ mb2 := by
          have h1 := N3.out.tree.mb_lt
          have h2 := hc.mb
          omega
        clear hc
        go_wp2_with fail
        refine (HSZ.out t a w4 N4.out.tree (HE.out.below N4.out.below) (by omega)).mono ?_
        rintro e' w5 ⟨rfl, hb⟩
        have N5 := Lib.hid (N4.out.grow hb)
        have C5 := Lib.hid (C4.out.below hb)
        clear hb
        go_wp2_with fail
        refine (HG.out t a w5 N5.out.tree (by omega)).mono ?_
        rintro e' w6 ⟨va6, rfl, hby6, hnew6, hb⟩
        have h06 : w.heap.size ≤ w6.heap.size := Nat.le_trans N5.out.below.size hb.size
        rcases move_cases HTT.out a b with ⟨hm1, hm2⟩ | ⟨hcan, hmv⟩
        · have hx6 := box_below w6 ((find t a).getD zeroE) va6 ((find t a).getD zeroE).data.length
          have N6 := Lib.hid (N5.out.grow (below_then hb hx6))
          have C6 := Lib.hid (C5.out.below (below_then hb hx6))
          have hq : ((Ft.move t a b).2 == 0) = false := beq_eq_false_iff_ne.2 hm2
          have hqn : ((Ft.move t a b).2 != 0) = true := by rw [bne_iff_ne]; exact hm2
          have HM1 := Lib.hid hm1
          clear hb hx6 hm1 hm2 hby6 hnew6
          generalize (find t a).getD zeroE = x6 at *
          generalize (find t a).isSome = s6 at *
          go_wp2_with fail
          refine (HMV.out t a b _ N6.out.tree (HE.out.below N6.out.below) (by omega) (by omega)).mono ?_
          rintro e' w7 ⟨rfl, hT7, hg7⟩
          rw [HM1.out] at hT7
          have N7 := Lib.hid (N6.out.op hT7 hg7)
          have hEQ := HEQ.out t t tb mb tb2 mb2 w7 hT7 (C6.out.kept hg7 (by
            rintro r e; cases e
            exact ⟨N6.out.tree.noCells, hne⟩))
          simp only [decide_true] at hEQ
          have HEQ7 := Lib.hid hEQ
          clear hT7 hg7 hEQ
          go_wp2_with fail
          refine HEQ7.out.mono ?_
          rintro e' w8 ⟨rfl, hb⟩
          have N8 := Lib.hid (N7.out.grow hb)
          clear hb
          go_wp2_with fail
          go_ret
          exact ⟨rfl, N8.out.below⟩
        · obtain ⟨e, hf, hna, hfb, hnn⟩ := hcan.ends
          have h1 := files_shift (under t a) a b
          have h2 := dirs_shift (under t a) a b
          have h3 := links_shift (under t a) a b
          have h4 := bytes_shift (under t a) a b
          rw [← hcan.under'] at h1 h2 h3 h4
          have hagain := hcan.again
          rw [hf] at hby6 ⊢
          simp only [Option.getD_some, Option.isSome_some] at hby6 ⊢
          have hx6 := box_below w6 e va6 e.data.length
          have N6 := Lib.hid (N5.out.grow (below_then hb hx6))
          have C6 := Lib.hid (C5.out.below (below_then hb hx6))
          have Q6 := Lib.hid (entBox_new w6 e va6 e.data.length)
          have Y6 := Lib.hid (hby6.below hx6)
          have HMV6 := Lib.hid (HMV.out t a b _ N6.out.tree (HE.out.below N6.out.below) (by omega) (by omega))
          rw [hmv] at HMV6
          dsimp only at HMV6
          obtain ⟨t2, ht2⟩ : ∃ t2, moved t a b = t2 := ⟨_, rfl⟩
          rw [ht2] at HMV6 hna hfb hnn h1 h2 h3 h4 hagain
          have HNA := Lib.hid hna
          have HFB := Lib.hid hfb
          have HNN := Lib.hid hnn
          have H1 := Lib.hid h1
          have H2 := Lib.hid h2
          have H3 := Lib.hid h3
          have H4 := Lib.hid h4
          have HAG := Lib.hid hagain
          clear hb hx6 hby6 hnew6 hf hna hfb hnn h1 h2 h3 h4 hagain hmv hcan ht2
          go_wp2_with fail
          refine HMV6.out.mono ?_
          rintro e' w7 ⟨rfl, hT7, hg7⟩
          have N7 := Lib.hid (N6.out.op hT7 hg7)
          have C7 := Lib.hid (C6.out.kept hg7 (by
            rintro r e; cases e
            exact ⟨N6.out.tree.noCells, hne⟩))
          have Q7 := Lib.hid (Q6.out.kept hg7 N6.out.tree.noRow)
          have Y7 := Lib.hid (Y6.out.kept hg7 (noRow_cells N6.out.tree.noRow))
          clear hT7 hg7
          have HSZ7 := Lib.hid (HSZ.out t2 b w7 N7.out.tree (HE.out.below N7.out.below) (by omega))
          rw [H1.out, H2.out, H3.out, H4.out] at HSZ7
          go_wp2_with fail
          refine HSZ7.out.mono ?_
          rintro e' w8 ⟨rfl, hb⟩
          have N8 := Lib.hid (N7.out.grow hb)
          have C8 := Lib.hid (C7.out.below hb)
          have Q8 := Lib.hid (Q7.out.below hb)
          have Y8 := Lib.hid (Y7.out.below hb)
          clear hb
          have HG8 := Lib.hid (HG.out t2 a w8 N8.out.tree (by omega))
          rw [HNA.out] at HG8
          simp only [Option.getD_none, Option.isSome_none] at HG8
          go_wp2_with fail
          refine HG8.out.mono ?_
          rintro e' w9 ⟨va9, rfl, _, _, hb⟩
          have hx9 := box_below w9 zeroE va9 zeroE.data.length
          have N9 := Lib.hid (N8.out.grow (below_then hb hx9))
          have C9 := Lib.hid (C8.out.below (below_then hb hx9))
          have Q9 := Lib.hid (Q8.out.below (below_then hb hx9))
          have Y9 := Lib.hid (Y8.out.below (below_then hb hx9))
          clear hb hx9
          have HG9 := Lib.hid (HG.out t2 b _ N9.out.tree (by omega))
          rw [HFB.out] at HG9
          simp only [Option.getD_some, Option.isSome_some] at HG9
          go_wp2_with fail
          refine HG9.out.mono ?_
          rintro e' w10 ⟨va10, rfl, hby10, _, hb⟩
          have hx10 := box_below w10 { e with path := b } va10 e.data.length
          have N10 := Lib.hid (N9.out.grow (below_then hb hx10))
          have C10 := Lib.hid (C9.out.below (below_then hb hx10))
          have Q10 := Lib.hid (Q9.out.below (below_then hb hx10))
          have Y10 := Lib.hid (Y9.out.below (below_then hb hx10))
          have K10 := Lib.hid (entBox_new w10 { e with path := b } va10 e.data.length)
          have Z10 := Lib.hid (hby10.below hx10)
          have h610 : w6.heap.size ≠ w10.heap.size := by
            have := lt_of_block Q9.out
            have := hb.size
            omega
          clear hb hx10 hby10
          obtain ⟨c0, c1, c2, c3, c4, c5⟩ := Q10.out.cells
          have f0 := free_of_block Q10.out 0
          have N11 := Lib.hid (show NewTree w ((w10.alloc (boxE { e with path := b } va10 e.data.length)).setCell ⟨w6.heap.size, 0, none⟩ (S b)) tb mb t2 from ⟨N10.out.tree.setBox Q10.out _ _, N10.out.below.setCell h06 _, N10.out.tb, N10.out.mb⟩)
          have C11 := Lib.hid (C10.out.setBox Q10.out 0 (S b))
          have Q11 := Lib.hid (Q10.out.setPath b)
          have Y11 := Lib.hid (Y10.out.setBox Q10.out 0 (S b))
          have K11 := Lib.hid (K10.out.setOther (b' := w6.heap.size) (fun e => h610 e.symm) 0 (S b))
          have Z11 := Lib.hid (Z10.out.setBox Q10.out 0 (S b))
          obtain ⟨d0, d1, d2, d3, d4, d5⟩ := Q11.out.cells
          obtain ⟨k0, k1, k2, k3, k4, k5⟩ := K11.out.cells
          have hS := sameR_any { e with path := b } { e with path := b } va6 va10 e.data.length e.data.length _ Y11.out Z11.out
          simp only [decide_true] at hS
          have HS := Lib.hid hS
          clear hS
          go_wp2_with fail
          refine HS.out.mono ?_
          rintro e' w12 ⟨rfl, hb⟩
          have N12 := Lib.hid (N11.out.grow hb)
          have C12 := Lib.hid (C11.out.below hb)
          clear hb c0 c1 c2 c3 c4 c5 f0 d0 d1 d2 d3 d4 d5 k0 k1 k2 k3 k4 k5
          have hE2 := HEQ.out t2 t tb mb tb2 mb2 w12 N12.out.tree C12.out
          rw [decide_eq_false (HNN.out)] at hE2
          have HE2 := Lib.hid hE2
          clear hE2
          go_wp2_with fail
          refine HE2.out.mono ?_
          rintro e' w13 ⟨rfl, hb⟩
          have N13 := Lib.hid (N12.out.grow hb)
          have C13 := Lib.hid (C12.out.below hb)
          clear hb
          have hM := HMV.out t2 b a w13 N13.out.tree (HE.out.below N13.out.below) (by omega) (by omega)
          rw [HAG.out] at hM
          dsimp only at hM
          have HM := Lib.hid hM
          clear hM
          go_wp2_with fail
          refine HM.out.mono ?_
          rintro e' w14 ⟨rfl, hT14, hg14⟩
          have N14 := Lib.hid (N13.out.op hT14 hg14)
          have C14 := Lib.hid (C13.out.kept hg14 (by
            rintro r e; cases e
            exact ⟨N13.out.tree.noCells, hne⟩))
          have hE1 := HEQ.out t t tb mb tb2 mb2 w14 hT14 C14.out
          simp only [decide_true] at hE1
          have HE1 := Lib.hid hE1
          clear hT14 hg14 hE1
          go_wp2_with fail
          refine HE1.out.mono ?_
          rintro e' w15 ⟨rfl, hb⟩
          have N15 := Lib.hid (N14.out.grow hb)
          have hE3 := HEQ.out t t tb2 mb2 tb mb w15 (C14.out.below hb) N15.out.tree
          simp only [decide_true] at hE3
          have HE3 := Lib.hid hE3
          clear hb hE3
          go_wp2_with fail
          refine HE3.out.mono ?_
          rintro e' w16 ⟨rfl, hb⟩
          have N16 := Lib.hid (N15.out.grow hb)
          clear hb
          go_wp2_with fail
          go_ret
          exact ⟨rfl, N16.out.below⟩

end Go.Proofs.YtdcghpeomaailaaDoor
