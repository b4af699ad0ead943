/-
  The walks of (*Tree).Walk and of the function that it hands out: a range over it gives the entries at and below a path, in order, each with bytes of its own.
-/
import Derived.Test.YtdcghpeomaailaaDoorFtAt
import Derived.Test.YtdcghpeomaailaaDoorFtOwn
import Derived.Test.YtdcghpeomaailaaDoorFtMovable
import Derived.Test.YtdcghpeomaailaaDoorRangeGive
namespace Go.Proofs.YtdcghpeomaailaaDoor
open Go.RowKit Go.Lib Go.Shelf Ft

attribute [local go_sem] Oper.semAt_some

set_option maxRecDepth 100000 in
theorem walk_any (tb : Nat) (path : Pn.B) (w : World) :
    Calls Tryd.prog 28 #[.pointer (some ⟨tb, 0, none⟩), S path] w fun e w' => e = .returned (.func (.func 52) #[] #[.pointer (some ⟨w.heap.size, 0, none⟩), .pointer (some ⟨w.heap.size + 1, 0, none⟩)]) ∧
      w' = (w.alloc (.cells #[.pointer (some ⟨tb, 0, none⟩)] 30)).alloc (.cells #[S path] 9) := by
  go_enter Tryd.func28, Tryd.ntmps28
  go_wp2_with fail
  go_ret
  exact ⟨rfl, rfl⟩

/-- What an element brings. -/
structure WG (u : List Ent) (m : Nat) (pre : List EC) (x : EC) (W : World) : Prop where
  lt : pre.length < u.length
  is : x.1 = u[pre.length]
  cap : x.2.2 = x.1.data.length
  bytes : BytesAt W x.2.1 x.1.data
  fresh : NewB m W x.2.1
  pre : pre.map Prod.fst = u.take pre.length

abbrev encE (x : EC) : Array Value := #[entV x.1 x.2.1 x.2.2]

theorem noCells_of {W : World} {r : Nat} {o : Obj} (h : W.heap[r]? = some o) (hc : o.isCells = false) : NoCells W r := by
  rintro ⟨b, i, s⟩ rfl
  simp only [World.cell?, h]
  cases o <;> first | rfl | cases hc

theorem U8.kept {w w' : World} {b : Nat} (h : U8 w b) {row : Option Nat} (hg : w.grownBy w' row) (hr : some b ≠ row) : U8 w' b := by
  obtain ⟨cs, fr, h⟩ := h
  exact ⟨cs, fr, (hg.block b (Array.getElem?_eq_some_iff.1 h).1 hr).trans h⟩

/-- The row that turns holds no cells. -/
abbrev NoRow (w : World) (row : Option Nat) : Prop := ∀ r, row = some r → ∃ o : Obj, w.heap[r]? = some o ∧ o.isCells = false

theorem NewB.kept {n : Nat} {w w' : World} {va : Option Addr} (h : NewB n w va) {row : Option Nat} (hg : w.grownBy w' row) (hr : NoRow w row) : NewB n w' va := fun a ha => by
  obtain ⟨h1, h2⟩ := h a ha
  refine ⟨h1, h2.kept hg fun e => ?_⟩
  obtain ⟨cs, fr, h⟩ := h2
  obtain ⟨o, ho, hc⟩ := hr _ e.symm
  rw [h] at ho; cases ho; cases hc

theorem WG.own (u : List Ent) (B m : Nat) (pre : List EC) (x : EC) : OwnFrom B (fun (_ : Unit) W => WG u m pre x W) := by
  rintro _ X Y row ⟨h1, h2, h3, h4, h5, h6⟩ hg hr
  refine ⟨h1, h2, h3, h4.kept hg (fun r e => ?_), h5.kept hg (fun r e => (hr r e).2), h6⟩
  obtain ⟨_, o, ho, hc⟩ := hr r e
  exact noCells_of ho hc

set_option maxHeartbeats 4000000 in
set_option maxRecDepth 100000 in
theorem walk1_in (n : Nat) (hn : 1 ≤ n) (l bt bp tb mb : Nat) (t u : List Ent) (path : Pn.B) (hu : under t path = u) (C : Nat → Prop) (wt W : World) (hT : TreeMem wt tb mb t) (hE : Env wt) (hw : Below wt.heap.size wt W) (hp : path.length < 4294967281)
    (hC : ∀ i, C i → wt.heap.size ≤ i ∧ i < W.heap.size ∧ i ≠ bt) (hl : wt.heap.size ≤ l) (hlb : l ≠ bt) (hlW : l < W.heap.size) (hbt : W.cell? ⟨bt, 0, none⟩ = some (.pointer (some ⟨tb, 0, none⟩))) (hbW : bt < W.heap.size) (hbp : W.cell? ⟨bp, 0, none⟩ = some (S path))
    (J : Nat → List EC → World → Prop) (Jx : List EC → World → Prop) (hJb : ∀ m s A B, J m s A → Below A.heap.size A B → J m s B)
    (hY : ∀ m pre x W1, J m pre W1 → WG u m pre x W1 → W.heap.size ≤ m → m ≤ W1.heap.size → YieldAt Fence.wide (n - 1) Tryd.prog l (encE x) W1 fun e W' =>
      (e = .returned (.bool true) ∧ J m (pre ++ [x]) W' ∧ Kept (fun i => C i ∨ i = l) m W1 W') ∨ (e = .returned (.bool false) ∧ Jx (pre ++ [x]) W'))
    (hJ0 : ∀ W', Below W.heap.size W W' → J W'.heap.size [] W') :
    CallsIn Fence.wide n Tryd.prog 52 #[.func (.yield l) #[] #[], .pointer (some ⟨bt, 0, none⟩), .pointer (some ⟨bp, 0, none⟩)] W fun e W' => (∃ v, e = .returned v) ∧
      ((∃ m xs, xs.map Prod.fst = u ∧ J m xs W') ∨ (∃ pre, (∃ k, pre.map Prod.fst = u.take k ∧ pre.length = k ∧ 0 < k ∧ k ≤ u.length) ∧ Jx pre W')) := by
  have HAT := Lib.hid (at_any t tb mb path W (hT.below hw) (hE.below hw) hp)
  have HD := Lib.hid fun e (he : e ∈ u) => valid_data_len (hT.good e (under_sub (hu ▸ he : e ∈ under t path)).1)
  have HPL := Lib.hid fun e (he : e ∈ u) => valid_path_len (hT.good e (under_sub (hu ▸ he : e ∈ under t path)).1)
  have HUT := Lib.hid fun e (he : e ∈ u) => (under_sub (hu ▸ he : e ∈ under t path)).1
  have hul : u.length ≤ 4096 := by
    have h1 := hT.few
    have h2 : u.length ≤ t.length := by
      rw [← hu]; unfold under; split
      · simp
      · exact List.length_filter_le _ _
    omega
  unfold AtOk at HAT
  rw [hu] at HAT
  have HT := Lib.hid hT
  have HE := Lib.hid hE
  have HW := Lib.hid hw
  have HC := Lib.hid hC
  have hwz := hw.size
  clear hT hE hw hC hu
  refine callsIn_of_wp Tryd.func52 rfl trivial ?_ rfl
  simp only [Tryd.ntmps52, List.size_toArray, List.length_cons, List.length_nil, Nat.reduceAdd, Nat.reduceSub, Array.replicate_succ, Array.replicate_zero, List.push_toArray, List.append_toArray, List.nil_append, List.cons_append]
  gi_wp2_with fail
  refine ⟨trivial, (callsIn_wide.2 HAT.out).mono ?_⟩
  rintro e w1 ⟨va, vc, rfl, hrow, hb1⟩
  have HROW := Lib.hid hrow
  have HB1 := Lib.hid hb1
  have hz1 := hb1.size
  clear hrow hb1
  gi_wp2_with fail
  gi_loopw [10] (fun v wr => ∃ (i : Nat) (pre : List EC), i ≤ u.length ∧ v = .int .i64 i ∧ pre.map Prod.fst = u.take i ∧ pre.length = i ∧ J w1.heap.size pre wr ∧ Kept (fun i => C i ∨ i = l) w1.heap.size w1 wr) (fun v _ => u.length - (intOf v).toNat)
  case atStart => exact ⟨0, [], Nat.zero_le _, rfl, rfl, rfl, hJ0 w1 HB1.out, Kept.refl _ _ _⟩
  case round =>
    obtain ⟨i, pre, hi, rfl, hpm, hpl, hJs, hk⟩ := hrel
    by_cases hlt : i < u.length
    · have hz : (i : Int) < (u.length : Int) := by omega
      have hnc : ∀ k, k < W.heap.size → k = bt → ¬ (C k ∨ k = l) := by
        rintro k _ rfl (h | h)
        · exact (HC.out _ h).2.2 rfl
        · exact hlb h.symm
      have hbt1 : wr.cell? ⟨bt, 0, none⟩ = some (.pointer (some ⟨tb, 0, none⟩)) := by
        rw [World.cell?_of_block (w := w1) (a := ⟨bt, 0, none⟩) (hk.block bt (by omega) (hnc bt hbW rfl)), HB1.out.cell (p := ⟨bt, 0, none⟩) hbW]; exact hbt
      have hrow1 : wr.cell? (match va with | some a => ⟨a.block, 0 + i, none⟩ | none => ⟨0, 0, none⟩) = some (S u[i].path) ∧ ∃ g, va = some ⟨g, 0, none⟩ := by
        rcases HROW.out with h | ⟨g, rfl, hge, hglt, hrow⟩
        · rw [h] at hlt; simp at hlt
        · refine ⟨?_, g, rfl⟩
          have r := hrow i (by rw [List.length_map]; exact hlt)
          simp only [List.getElem_map] at r
          rw [World.cell?_of_block (w := w1) (a := ⟨g, 0 + i, none⟩) (hk.block g hglt (by
            rintro (h | h)
            · have := (HC.out _ h).2.1; omega
            · omega))]
          exact r
      obtain ⟨hr1, g, rfl⟩ := hrow1
      simp only [Nat.zero_add] at hr1
      have hbw : Below wt.heap.size wt wr := (HW.out.trans (HB1.out.mono hwz)).trans (hk.below (by omega) (by
        rintro k (h | rfl)
        · exact (HC.out _ h).1
        · exact hl))
      have heu := List.getElem_mem hlt
      have htk : u.take (i + 1) = u.take i ++ [u[i]] := by rw [List.take_succ_eq_append_getElem hlt]
      obtain ⟨e, he⟩ : ∃ e, u[i] = e := ⟨_, rfl⟩
      have HIS := Lib.hid he
      rw [he] at hr1 htk heu
      have hdl := HD.out e heu
      have hppl := HPL.out e heu
      have hct := (HT.out.below hbw).cell
      obtain ⟨da, dc, hdc, hby, hlk⟩ := HT.out.lookP (HUT.out e heu)
      have hlk2 := hlk wr hbw
      have HCOP := Lib.hid (copied_any e da dc wr (hby.below hbw) (by omega))
      have HK := Lib.hid hk
      have HJ := Lib.hid hJs
      have HTK := Lib.hid htk
      have HPM := Lib.hid hpm
      have HPN := Lib.hid hpl
      clear hby hbw hk hJs htk hlk hpm hpl he heu hnc
      gi_wp2_with fail
      refine ⟨trivial, (callsIn_wide.2 HCOP.out).mono ?_⟩
      rintro e' w2 ⟨va', rfl, hby2, hnew, hb2⟩
      have hm2 : w1.heap.size ≤ w2.heap.size := Nat.le_trans HK.out.size hb2.size
      obtain ⟨fn, tmps, assign, body, hy, hR⟩ := hY w1.heap.size pre (e, va', e.data.length) w2 (hJb _ _ _ _ HJ.out hb2) ⟨by rw [HPN.out]; exact hlt, by simp only [HPN.out]; exact HIS.out.symm, rfl, hby2, fun a h => ⟨Nat.le_trans HK.out.size (hnew a h).1, (hnew a h).2⟩, by rw [HPN.out]; exact HPM.out⟩ hz1 hm2
      have HB2 := Lib.hid hb2
      clear hby2 hnew hb2 hct hlk2 hr1 hbt1
      gi_wp2_with fail
      refine hR.mono ?_
      rintro e' W3 (⟨rfl, hJ3, hk3⟩ | ⟨rfl, hJx3⟩)
      · have HJ3 := Lib.hid hJ3
        have HK3 := Lib.hid ((HK.out.trans (Kept.of_below HB2.out HK.out.size)).trans hk3)
        clear hJ3 hk3
        gi_wp2_with fail
        go_roundw
        case rel => exact ⟨i + 1, pre ++ [(e, va', e.data.length)], by omega, by go_num, by rw [List.map_append, HPM.out, HTK.out]; rfl, by rw [List.length_append, HPN.out]; rfl, HJ3.out, HK3.out⟩
        case measure => simp [intOf] <;> omega
      · have HJX := Lib.hid hJx3
        clear hJx3
        gi_wp2_with fail
        refine bodyPost_ret (results_none rfl _ _ _) rfl ?_
        exact ⟨⟨_, rfl⟩, .inr ⟨pre ++ [(e, va', e.data.length)], ⟨i + 1, by rw [List.map_append, HPM.out, HTK.out]; rfl, by rw [List.length_append, HPN.out]; rfl, by omega, by omega⟩, HJX.out⟩⟩
    · have hz : ¬ (i : Int) < (u.length : Int) := by omega
      have HFIN := Lib.hid (show pre.map Prod.fst = u by rw [hpm, List.take_of_length_le (by omega)])
      have HJ := Lib.hid hJs
      clear hpm hpl hJs hk
      gi_wp2_with fail
      go_end0
      exact ⟨⟨_, rfl⟩, .inl ⟨_, pre, HFIN.out, HJ.out⟩⟩

/-- The value that Walk hands back, as a range's iterator. -/
theorem walk_gives (n : Nat) (hn : 1 ≤ n) (bt bp tb mb : Nat) (t : List Ent) (path : Pn.B) (C : Nat → Prop) (wt w : World) (hT : TreeMem wt tb mb t) (hE : Env wt) (hw : Below wt.heap.size wt w) (hp : path.length < 4294967281)
    (hC : ∀ i, C i → wt.heap.size ≤ i ∧ i < w.heap.size ∧ i ≠ bt) (hbt : w.cell? ⟨bt, 0, none⟩ = some (.pointer (some ⟨tb, 0, none⟩))) (hbw : bt < w.heap.size) (hbp : w.cell? ⟨bp, 0, none⟩ = some (S path)) (hbw2 : bp < w.heap.size) :
    SeqGive Fence.wide n Tryd.prog 52 #[.pointer (some ⟨bt, 0, none⟩), .pointer (some ⟨bp, 0, none⟩)] encE (WG (under t path)) C (fun xs => xs.map Prod.fst = under t path)
      (fun pre => ∃ k, pre.map Prod.fst = (under t path).take k ∧ pre.length = k ∧ 0 < k ∧ k ≤ (under t path).length) w := fun l J Jx W hW hl hlW hJb hY hJ0 => by
  have hs := hw.size
  exact walk1_in n hn l bt bp tb mb t _ path rfl C wt W hT hE (hw.trans (hW.mono hs)) hp (fun i h => by have := hC i h; have := hW.size; exact ⟨by omega, by omega, by omega⟩) (by omega) (by omega) hlW
    ((hW.cell (p := ⟨bt, 0, none⟩) hbw).trans hbt) (Nat.lt_of_lt_of_le hbw hW.size) ((hW.cell (p := ⟨bp, 0, none⟩) hbw2).trans hbp) J Jx hJb hY hJ0

end Go.Proofs.YtdcghpeomaailaaDoor
