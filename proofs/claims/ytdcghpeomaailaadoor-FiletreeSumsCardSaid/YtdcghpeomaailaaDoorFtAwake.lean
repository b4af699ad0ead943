/-
  The walk of kinkeeplaw20.awake: it answers true.
-/
import Derived.Test.YtdcghpeomaailaaDoorFtExample
import Derived.Test.YtdcghpeomaailaaDoorFtColl
import Derived.Test.YtdcghpeomaailaaDoorFtMove
import Derived.Test.YtdcghpeomaailaaDoorFtSmall
import Derived.Test.YtdcghpeomaailaaDoorFtSize
import Derived.Test.YtdcghpeomaailaaDoorFtSame
namespace Go.Proofs.YtdcghpeomaailaaDoor
open Go.RowKit Go.Lib Ft

def exT1 : List Ent := [⟨[98], 3, 0, 0, [], [97]⟩, ⟨[99], 2, 493, 0, [], []⟩, ⟨[99, 47, 120], 1, 0, 0, [49, 50], []⟩]
theorem ex1 : check exEnts = 0 := by decide +kernel
theorem ex2 : files (under exEnts []) = 1 ∧ dirs (under exEnts []) = 1 ∧ links (under exEnts []) = 1 ∧ Ft.bytes (under exEnts []) = 2 := by decide +kernel
theorem ex3 : Ft.remove exEnts [97] false = (exEnts, 6) := by decide +kernel
theorem ex4 : Ft.move exEnts [97] [99] = (exT1, 0) := by decide +kernel
theorem ex5 : Ft.move exT1 [99] [99, 47, 100] = (exT1, 13) := by decide +kernel
theorem ex6 : Ft.move exT1 [98] [120, 47, 121] = (exT1, 4) := by decide +kernel
theorem ex7 : find exT1 [99, 47, 120] = some ⟨[99, 47, 120], 1, 0, 0, [49, 50], []⟩ := by decide +kernel
theorem ex8 : (Ft.put exT1 ⟨[99], 1, 0, 0, [], []⟩) = (exT1, 13) := by decide +kernel
theorem ex9 : ∀ e ∈ exEnts, e.path.length < 4294967281 ∧ e.link.length < 4294967281 := by decide +kernel

/-- What stays of the trees from call to call. -/
structure AwS (w w' : World) (tb mb : Nat) (t : List Ent) : Prop where
  tree : TreeMem w' tb mb t
  below : Below w.heap.size w w'
  fresh : w.heap.size ≤ mb

theorem AwS.grow {w w1 w2 : World} {tb mb : Nat} {t : List Ent} (h : AwS w w1 tb mb t) (hb : Below w1.heap.size w1 w2) : AwS w w2 tb mb t := ⟨h.tree.below hb, below_then h.below hb, h.fresh⟩
theorem AwS.op {w w1 w2 : World} {tb mb : Nat} {t t' : List Ent} (h : AwS w w1 tb mb t) (ht : TreeMem w2 tb mb t') (hg : w1.grownBy w2 (some mb)) : AwS w w2 tb mb t' :=
  ⟨ht, h.below.grown hg h.below.size (fun k e => by cases e; exact h.fresh), h.fresh⟩

set_option maxHeartbeats 8000000 in
set_option maxRecDepth 100000 in
/-- awake answers true. -/
theorem awake_any (w : World) (hE : Env w) : Calls Tryd.prog 10 #[] w fun e w' => e = .returned (.bool true) ∧ Below w.heap.size w w' := by
  have H1 := Lib.hid fun va w h ha => from_any exEnts va 3 w h ha (fun _ => ex9)
  unfold FromOk at H1
  rw [ex1] at H1
  have H2 := Lib.hid fun tb mb w h hE => size_any exEnts tb mb [] w h hE (by simp)
  rw [ex2.1, ex2.2.1, ex2.2.2.1, ex2.2.2.2] at H2
  have H3 := Lib.hid fun tb mb w h hE => remove_any exEnts tb mb [97] false w h hE (by simp)
  unfold OpOk at H3
  rw [ex3] at H3
  have H4 := Lib.hid fun tb mb w h hE => move_any exEnts tb mb [97] [99] w h hE (by simp) (by simp)
  unfold OpOk at H4
  rw [ex4] at H4
  have H5 := Lib.hid fun tb mb w h hE => move_any exT1 tb mb [99] [99, 47, 100] w h hE (by simp) (by simp)
  unfold OpOk at H5
  rw [ex5] at H5
  have H6 := Lib.hid fun tb mb w h hE => move_any exT1 tb mb [98] [120, 47, 121] w h hE (by simp) (by simp)
  unfold OpOk at H6
  rw [ex6] at H6
  have H7 := Lib.hid fun tb mb w h => get_any exT1 tb mb [99, 47, 120] w h (by simp)
  rw [ex7] at H7
  simp only [Option.getD_some, Option.isSome_some, List.length_cons, List.length_nil, Nat.reduceAdd] at H7
  have H8 := Lib.hid fun tb mb w h hE => entries_any exT1 tb mb w h hE
  unfold EntsOut at H8
  have H9 := Lib.hid fun tb mb w h hE => put_any exT1 tb mb ⟨[99], 1, 0, 0, [], []⟩ none 0 w h hE (by simp) (by simp) (.inl rfl)
  unfold PutOk at H9
  rw [ex8] at H9
  have H10 := Lib.hid fun w => new_any w
  have H11 := Lib.hid fun tb mb w h hE => entries_any [] tb mb w h hE
  unfold EntsOut at H11
  have HE := Lib.hid hE
  have H0 := Lib.hid (example_any w)
  clear hE
  go_enter Tryd.func10, Tryd.ntmps10
  go_wp2_with fail
  refine H0.out.mono ?_
  rintro e w1 ⟨va, rfl, ha, hb⟩
  have HB1 := Lib.hid hb
  have HA1 := Lib.hid ha
  clear hb ha
  go_wp2_with fail
  refine (H1.out va w1 (HE.out.below HB1.out) HA1.out).mono ?_
  rintro e w2 ⟨hb, ⟨h0, _⟩ | ⟨_, tb, mb, rfl, hT, h3, h4⟩⟩
  · exact absurd rfl h0
  have A2 := Lib.hid (show AwS w w2 tb mb exEnts from ⟨hT, below_then HB1.out hb, Nat.le_trans HB1.out.size h4⟩)
  clear hb hT h3 h4
  go_wp2_with fail
  refine (H2.out tb mb w2 A2.out.tree (HE.out.below A2.out.below)).mono ?_
  rintro e w3 ⟨rfl, hb⟩
  have A3 := Lib.hid (A2.out.grow hb)
  clear hb
  go_wp2_with fail
  refine (H3.out tb mb w3 A3.out.tree (HE.out.below A3.out.below)).mono ?_
  rintro e w4 ⟨rfl, hT, hg⟩
  have A4 := Lib.hid (A3.out.op hT hg)
  clear hT hg
  go_wp2_with fail
  refine (H4.out tb mb w4 A4.out.tree (HE.out.below A4.out.below)).mono ?_
  rintro e w5 ⟨rfl, hT, hg⟩
  have A5 := Lib.hid (A4.out.op hT hg)
  clear hT hg
  go_wp2_with fail
  refine (H5.out tb mb w5 A5.out.tree (HE.out.below A5.out.below)).mono ?_
  rintro e w6 ⟨rfl, hT, hg⟩
  have A6 := Lib.hid (A5.out.op hT hg)
  clear hT hg
  go_wp2_with fail
  refine (H6.out tb mb w6 A6.out.tree (HE.out.below A6.out.below)).mono ?_
  rintro e w7 ⟨rfl, hT, hg⟩
  have A7 := Lib.hid (A6.out.op hT hg)
  clear hT hg
  go_wp2_with fail
  refine (H7.out tb mb w7 A7.out.tree).mono ?_
  rintro e w8 ⟨vb, rfl, hby, _, hb⟩
  have A8 := Lib.hid (A7.out.grow hb)
  have hbX : Below w8.heap.size w8 (w8.alloc (.cells #[S [99, 47, 120], .int .i64 1, .int .i64 0, .int .i64 0, .slice vb 2 2, S []] 25)) := (Below.refl _ _).alloc (Nat.le_refl _) _
  have hcv := string_of 2 (hby.below hbX)
  simp only [List.length_cons, List.length_nil, Nat.reduceAdd] at hcv
  have A9 := Lib.hid (A8.out.grow hbX)
  have H8a := Lib.hid (H8.out tb mb _ A9.out.tree (HE.out.below A9.out.below))
  have H9a := Lib.hid fun w h => H9.out tb mb w h
  clear hb hby hbX
  go_wp2_with fail
  refine H8a.out.mono ?_
  rintro e w10 ⟨vd, ve, l, rfl, _, _, hb⟩
  have A10 := Lib.hid (A9.out.grow hb)
  clear hb hcv
  go_wp2_with fail
  refine (H9a.out w10 A10.out.tree (HE.out.below A10.out.below)).mono ?_
  rintro e w11 ⟨rfl, hT, hg⟩
  have A11 := Lib.hid (A10.out.op hT hg)
  clear hT hg
  go_wp2_with fail
  refine (H10.out w11).mono ?_
  rintro e w12 ⟨tc, mc, rfl, hT, hb, _, h5⟩
  have A12 := Lib.hid (A11.out.grow hb)
  have T12 := Lib.hid hT
  clear hT hb h5
  go_wp2_with fail
  refine (H11.out tc mc w12 T12.out (HE.out.below A12.out.below)).mono ?_
  rintro e w13 ⟨vf, vg, l2, rfl, _, _, hb⟩
  have A13 := Lib.hid (A12.out.grow hb)
  clear hb
  go_wp2_with fail
  go_ret
  exact ⟨rfl, A13.out.below⟩

end Go.Proofs.YtdcghpeomaailaaDoor
