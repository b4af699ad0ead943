/-
  The walk of kinkeeplaw20.FiletreeSums: it answers true.
-/
import Derived.Test.YtdcghpeomaailaaDoorFtList
import Derived.Test.YtdcghpeomaailaaDoorFtAwake
import Derived.Test.YtdcghpeomaailaaDoorFtLawP
import Derived.Test.YtdcghpeomaailaaDoorFtSums
import Derived.Deep.CutRange
namespace Go.Proofs.YtdcghpeomaailaaDoor
open Go.RowKit Go.Lib Go.Shelf Ft

attribute [local go_sem] Oper.semAt_some



set_option maxHeartbeats 8000000 in
set_option maxRecDepth 100000 in
theorem sums_any (l : List OpE) (va : Option Addr) (vc : Nat) (dir : Pn.B) (w : World) (hl : l.length ≤ 9223372036854775807) (hE : Env w) (hA : OpsAt w va l) :
    Calls Tryd.prog 6 #[.slice va l.length vc, S dir] w fun e' w' => e' = .returned (.bool true) ∧ Below w.heap.size w w' := by
  have HAW := Lib.hid (awake_any w hE)
  have HE := Lib.hid hE
  have HA := Lib.hid hA
  have HWD := Lib.hid fun w h => wide_any l va vc w hl h
  clear hE hA
  refine (callsIn_wide (n := 9)).1 ?_
  refine callsIn_of_wp_marks Tryd.func6 rfl trivial ?_ rfl
  simp only [Tryd.ntmps6, List.size_toArray, List.length_cons, List.length_nil, Nat.reduceAdd, Nat.reduceSub, Array.replicate_succ, Array.replicate_zero, List.push_toArray, List.append_toArray, List.nil_append, List.cons_append]
  refine wpIn_wide.2 ?_
  go_wp2_with fail
  refine HAW.out.mono ?_
  rintro e' w1 ⟨rfl, hb⟩
  have B1 := Lib.hid hb
  clear hb
  go_wp2_with fail
  refine (HWD.out w1 (HA.out.below B1.out)).mono ?_
  rintro e' w2 ⟨rfl, hb⟩
  have B2 := Lib.hid (below_then B1.out hb)
  clear hb
  cases hwd : wideP l with
  | true =>
    go_wp2_with fail
    exact ⟨.bool true, by simp [results, Tryd.results6, go_sem], rfl, B2.out⟩
  | false =>
    obtain ⟨hl30, hbigs⟩ := wide_not hwd
    have HOK := Lib.hid fun x (hx : x ∈ l) => okOp (hbigs x hx)
    clear hwd hbigs
    by_cases hol : 600 < dir.length
    · have q : (600 : Int) < (dir.length : Int) := by omega
      go_wp2_with fail
      exact ⟨.bool true, by simp [results, Tryd.results6, go_sem], rfl, B2.out⟩
    have q : ¬ (600 : Int) < (dir.length : Int) := by omega
    have HP := Lib.hid (play_any l va vc w2 (by omega) (HE.out.below B2.out) (HA.out.below B2.out) HOK.out)
    unfold PlayOk at HP
    have HT := Lib.hid (play_tree l)
    generalize playP l = t at *
    go_wp2_with fail
    refine HP.out.mono ?_
    rintro e' w3 ⟨tb, mb, rfl, hn⟩
    have B3 := Lib.hid (below_then B2.out hn.below)
    have T3 := Lib.hid hn.tree
    clear hn
    have HLI := Lib.hid (list_any t tb mb dir w3 T3.out (HE.out.below B3.out) (by omega))
    unfold ListOk at HLI
    go_wp2_with fail
    refine HLI.out.mono ?_
    rintro e' w4 (⟨h0, rfl, hb⟩ | ⟨h0, vk, vkc, lk, rfl, hk, hkm, hb⟩)
    · have q0 : (listE t dir != 0) = true := by rw [bne_iff_ne]; exact h0
      have B4 := Lib.hid (below_then B3.out hb)
      clear hb h0
      go_wp2_with fail
      exact ⟨.bool true, by simp [results, Tryd.results6, go_sem], rfl, B4.out⟩
    have B4 := Lib.hid (below_then B3.out hb)
    have T4 := Lib.hid (T3.out.below hb)
    have K4 := Lib.hid (show EntsAt w4 vk (kidsOf t dir) by rw [← hkm]; exact hk.at)
    have L0 := Lib.hid h0
    have HG := Lib.hid fun w (h : TreeMem w tb mb t) => get_any t tb mb dir w h (by omega)
    clear hk hkm hb h0
    have h8 := heap_alloc_new w4 (.cells #[.slice none 0 0] 29)
    have hA4 : Below w4.heap.size w4 (w4.alloc (.cells #[.slice none 0 0] 29)) := (Below.refl _ _).alloc (Nat.le_refl _) _
    have hz4 : (w4.alloc (.cells #[.slice none 0 0] 29)).heap.size = w4.heap.size + 1 := by simp
    have HG4 := Lib.hid (HG.out _ (T4.out.below hA4))
    rw [hz4] at HG4
    have H8 := Lib.hid h8
    have A4 := Lib.hid hA4
    have Z4 := Lib.hid hz4
    clear h8 hA4 hz4
    go_wp2_with fail
    refine HG4.out.mono ?_
    rintro e' w5 ⟨va5, rfl, hby5, hnew5, hb5⟩
    have Q5 := Lib.hid (entBox_new w5 ((find t dir).getD zeroE) va5 ((find t dir).getD zeroE).data.length)
    have X5 := Lib.hid (box_below w5 ((find t dir).getD zeroE) va5 ((find t dir).getD zeroE).data.length)
    have D5 := Lib.hid hb5
    have Y5 := Lib.hid hby5
    have N5 := Lib.hid hnew5
    clear hby5 hnew5 hb5
    go_upto_if 52 with fail
    go_cut [10] from 27 (fun s10 wx => s10 = .bool (find t dir).isSome ∧ ∃ va8 vc8 l8, AllBox w4 w4.heap.size (w4.heap.size + 1) wx va8 vc8 l8 ∧ l8.map Prod.fst = (find t dir).toList)
    case first =>
      have hab0 : AllBox w4 w4.heap.size (w4.heap.size + 1) (w5.alloc (boxE ((find t dir).getD zeroE) va5 ((find t dir).getD zeroE).data.length)) none 0 [] :=
        ⟨(X5.out.block _ (Nat.lt_of_lt_of_le (by have := Z4.out; omega) D5.out.size)).trans ((D5.out.block _ (by omega)).trans H8.out), EntsNew.nil _ _, by omega, Nat.le_refl _, (A4.out.trans (D5.out.mono (by omega))).trans (X5.out.mono (by have := D5.out.size; have := Z4.out; omega))⟩
      clear HG HG4
      cases ho : find t dir with
      | none =>
        rw [ho] at hab0
        have AB0 := Lib.hid hab0
        simp only [Option.isSome_none, Option.getD_none]
        have HO := Lib.hid ho
        clear hab0 ho
        go_wp2_with fail
        go_meet
        case rel => exact ⟨by rw [HO.out]; rfl, none, 0, [], AB0.out, by rw [HO.out]; rfl⟩
      | some x =>
        rw [ho] at hab0 Q5 X5 Y5
        simp only [Option.isSome_some, Option.getD_some] at hab0 Q5 X5 Y5 ⊢
        obtain ⟨w6, hw6⟩ : ∃ w6, w5.alloc (boxE x va5 x.data.length) = w6 := ⟨_, rfl⟩
        rw [hw6] at hab0 Q5 X5 ⊢
        have Y6 := Lib.hid (Y5.out.below X5.out)
        have N6 := Lib.hid (show NewB (w4.heap.size + 1) w6 va5 from fun a ha => ⟨(N5.out a ha).1, (N5.out a ha).2.kept (grown_below X5.out none) (fun e => by cases e)⟩)
        have hnn : w4.heap.size + 1 ≤ w6.heap.size := Nat.le_trans (by have := D5.out.size; have := Z4.out; omega) X5.out.size
        obtain ⟨va', vc', w7, hrun, hnew7, hk7, hg7, hrow7⟩ := new_app (EntsNew.nil (w4.heap.size + 1) w6) hnn (x, va5, x.data.length) ⟨rfl, Y6.out, N6.out⟩ (by simp)
        simp only [List.length_nil, Nat.zero_add, List.nil_append] at hrun hnew7
        have hb7 : w7.heap[w4.heap.size]? = some (.cells #[.slice none 0 0] 29) := by
          rw [hg7.block _ (lt_of_block hab0.box) (fun e => by cases e)]; exact hab0.box
        have c8 := cell_of_block' hab0.box 0
        have c7 := cell_of_block' hb7 0
        have f7 := free_of_block hb7 0
        simp at c8 c7
        obtain ⟨x0, x1, x2, x3, x4, x5⟩ := Q5.out.cells
        have AB7 := Lib.hid (show AllBox w4 w4.heap.size (w4.heap.size + 1) (w7.setCell ⟨w4.heap.size, 0, none⟩ (.slice va' 1 vc')) va' vc' [(x, va5, x.data.length)] from
          ⟨by rw [block_set hb7 0 _]; simp, hnew7.set _ _ _ (by omega), by omega, Nat.le_refl _, ((hab0.below).grown hg7 hab0.below.size (fun k e => by cases e)).setCell (Nat.le_refl _) _⟩)
        have HRUN := Lib.hid hrun
        have HO := Lib.hid ho
        clear hab0 hnew7 hk7 hg7 hrow7 hb7 hrun ho hnn hw6
        go_wp2_with (at_builtin; refine wpList_append_run rfl _ _ 29 rfl _ _ rfl rfl _ _ rfl HRUN.out ?_)
        go_meet
        case rel => exact ⟨by rw [HO.out]; rfl, va', vc', _, AB7.out, by rw [HO.out]; rfl⟩
    case rest =>
      obtain ⟨rfl, va8, vc8, l8, hab, hl8⟩ := hcut
      have hbe : belowE t dir = 0 := by
        have h1 := L0.out
        unfold listE at h1
        split at h1
        · cases h1
        · exact h1
      have HU := Lib.hid (under_parts HT.out hbe)
      have HKT := Lib.hid fun k hk => (kid_iff HT.out hbe k).1 hk
      have HBD := Lib.hid (kids_bound HT.out hbe T4.out.few (fun e he => valid_data_len (T4.out.good e he)))
      have BE := Lib.hid hbe
      clear hbe HG HG4 HLI HP
      obtain ⟨ks, hks⟩ : ∃ ks, kidsOf t dir = ks := ⟨_, rfl⟩
      obtain ⟨s10, hs10⟩ : ∃ s, (find t dir).isSome = s := ⟨_, rfl⟩
      obtain ⟨sl, hsl⟩ : ∃ s, (find t dir).toList = s := ⟨_, rfl⟩
      rw [hsl] at HU hl8
      rw [hks] at HU HKT HBD K4 ⊢
      rw [hs10]
      have AB := Lib.hid hab
      have L8 := Lib.hid hl8
      have SL := Lib.hid hsl
      have KS := Lib.hid hks
      have HUN := Lib.hid fun p => (Nat.le_trans (by unfold under; split <;> simp [List.length_filter_le]) T4.out.few : (under t p).length ≤ 4096)
      have hkl : ks.length ≤ 4096 := by
        rw [← hks]
        exact Nat.le_trans (List.length_filter_le _ _) (Nat.le_trans (by unfold under; split <;> simp [List.length_filter_le]) T4.out.few)
      clear hab hl8 hsl hks hs10
      go_wp2_with fail
      refine wp_loop_ghost_k (fun k a' W => ∃ (v13 v14 v15 v16 v17 v18 v19 v20 v60 v61 v62 v63 v64 v65 v66 v67 v68 v69 v70 v71 v72 v73 v74 v75 v76 v77 v78 v79 v80 v81 v82 v83 v84 v85 v86 v87 v88 v89 v90 v91 v92 v93 v94 v95 v96 v97 v98 v99 v100 v101 v102 v103 v104 v105 v106 v107 v108 v109 v110 v111 v112 v113 v114 : Value) (i : Nat) (Ds : List Nat), a' = { tmps := #[.slice va l.length vc, S dir, undef, undef, .bool false, .pointer (some ⟨tb, 0, none⟩), .slice vk ks.length vkc, .int .i64 0, .pointer (some ⟨w4.heap.size, 0, none⟩), .pointer (some ⟨w5.heap.size, 0, none⟩), .bool s10, .pointer (some ⟨wc.heap.size, 0, none⟩), undef, v13, v14, v15, v16, v17, v18, v19, v20, undef, undef, undef, undef, undef, undef, u27, u28, u29, u30, u31, u32, u33, u34, u35, u36, u37, u38, u39, u40, u41, u42, u43, u44, u45, u46, u47, u48, u49, u50, u51, u52, u53, u54, u55, u56, .slice vk ks.length vkc, .int .i64 ks.length, .int .i64 i, v60, v61, v62, v63, v64, v65, v66, v67, v68, v69, v70, v71, v72, v73, v74, v75, v76, v77, v78, v79, v80, v81, v82, v83, v84, v85, v86, v87, v88, v89, v90, v91, v92, v93, v94, v95, v96, v97, v98, v99, v100, v101, v102, v103, v104, v105, v106, v107, v108, v109, v110, v111, v112, v113, v114, u115, u116, u117, u118, u119, u120, u121, u122, u123, u124, u125, u126, u127, u128, u129, u130, u131, u132, u133, u134, u135, u136, u137, u138, u139, u140, u141, u142, u143, u144, u145, u146, u147, u148], defers := colls Ds } ∧ Hid (SumR w4 w4.heap.size wc.heap.size (w4.heap.size + 1) (sl ++ flat t ks i) (flat t ks i) Ds W) ∧ i ≤ ks.length ∧ ks.length - i ≤ k) ks.length ?_ ?_
      · refine ⟨_, _, _, _, _, _, _, _, _, _, _, _, _, _, _, _, _, _, _, _, _, _, _, _, _, _, _, _, _, _, _, _, _, _, _, _, _, _, _, _, _, _, _, _, _, _, _, _, _, _, _, _, _, _, _, _, _, _, _, _, _, _, _, 0, [], rfl, Lib.hid ?_, by omega, by omega⟩
        have hbc := (Below.refl wc.heap.size wc).alloc (Nat.le_refl _) (.cells #[.int .i64 0, .int .i64 0, .int .i64 0, .int .i64 0] 50)
        exact ⟨⟨va8, vc8, l8, AB.out.more hbc, by rw [L8.out]; simp [flat]⟩, heap_alloc_new wc _, AB.out.below.size, by have := lt_of_obj AB.out.box; omega, by simp, by simp⟩
      rintro gk _ W ⟨v13, v14, v15, v16, v17, v18, v19, v20, v60, v61, v62, v63, v64, v65, v66, v67, v68, v69, v70, v71, v72, v73, v74, v75, v76, v77, v78, v79, v80, v81, v82, v83, v84, v85, v86, v87, v88, v89, v90, v91, v92, v93, v94, v95, v96, v97, v98, v99, v100, v101, v102, v103, v104, v105, v106, v107, v108, v109, v110, v111, v112, v113, v114, i, Ds, rfl, hS, hi, hk⟩ J K hJ hK
      have HJ := Lib.hid hJ
      clear hJ
      by_cases hlt : i < ks.length
      · have hz : (i : Int) < (ks.length : Int) := by omega
        obtain ⟨g, off, da, dc, rfl, hg, r0, r1, r2, r3, r4, r5, hdc, hby⟩ := (K4.out.below hS.out.below).get hlt
        obtain ⟨k, hke⟩ : ∃ k, ks[i] = k := ⟨_, rfl⟩
        have hkt := HKT.out k (hke ▸ List.getElem_mem hlt)
        have hkv := T4.out.good k hkt.1
        have hkp := valid_path_len hkv
        have B5 := Lib.hid (below_then B4.out hS.out.below)
        have Q5 := Lib.hid (entBox_new W k da dc)
        have X5 := Lib.hid (box_below W k da dc)
        have B6 := Lib.hid (below_then B5.out X5.out)
        have HPAR := Lib.hid (parent_any ⟨k.path.toArray⟩ (W.alloc (boxE k da dc)) (show k.path.length < _ by omega) (HE.out.below B6.out))
        unfold ParentOk at HPAR
        rw [show (⟨k.path.toArray⟩ : ByteArray).data.toList = k.path from rfl, valid_path hkv, if_pos rfl, hkt.2] at HPAR
        rw [hke] at r0 r1 r2 r3 r4 r5
        have KE := Lib.hid hke
        have hdd : (dir != dir) = false := by simp
        have HSZ := Lib.hid fun w h hE => size_any t tb mb k.path w h hE (by omega)
        have HF := Lib.hid (flat_next t ks hlt)
        have HB1 := Lib.hid (HBD.out (i + 1))
        rw [HF.out, hke, files_app, dirs_app, links_app, bytes_app] at HB1
        obtain ⟨b1, b2, b3, b4⟩ := HB1.out
        clear hby hkt hkv hke
        go_wp2_with fail
        refine HPAR.out.mono ?_
        rintro e' w6 ⟨hb6, rfl⟩
        have Q6 := Lib.hid (Q5.out.below hb6)
        have X6 := Lib.hid (below_then X5.out hb6)
        have B7 := Lib.hid (below_then B6.out hb6)
        obtain ⟨c0, c1, c2, c3, c4, c5⟩ := Q6.out.cells
        clear hb6 c1 c2 c3 c4 c5 r0 r1 r2 r3 r4 r5
        go_wp2_with fail
        refine (HSZ.out w6 (T4.out.below (below_then hS.out.below X6.out)) (HE.out.below B7.out)).mono ?_
        rintro e' w7 ⟨rfl, hb7⟩
        have X7 := Lib.hid (below_then X6.out hb7)
        have Q7 := Lib.hid (Q6.out.below hb7)
        have B8 := Lib.hid (below_then B7.out hb7)
        have S7 := Lib.hid (hS.out.more X7.out)
        have m0 := cell_of_block' S7.out.sum 0
        have m1 := cell_of_block' S7.out.sum 1
        have m2 := cell_of_block' S7.out.sum 2
        have m3 := cell_of_block' S7.out.sum 3
        have f0 := free_of_block S7.out.sum 0
        have f1 := free_of_block S7.out.sum 1
        have f2 := free_of_block S7.out.sum 2
        have f3 := free_of_block S7.out.sum 3
        simp at m0 m1 m2 m3
        obtain ⟨s0, t0⟩ : ∃ a : Nat, files (flat t ks i) = a := ⟨_, rfl⟩
        obtain ⟨s1, t1⟩ : ∃ a : Nat, dirs (flat t ks i) = a := ⟨_, rfl⟩
        obtain ⟨s2, t2⟩ : ∃ a : Nat, links (flat t ks i) = a := ⟨_, rfl⟩
        obtain ⟨s3, t3⟩ : ∃ a : Nat, Ft.bytes (flat t ks i) = a := ⟨_, rfl⟩
        obtain ⟨p0, y0⟩ : ∃ a : Nat, files (under t k.path) = a := ⟨_, rfl⟩
        obtain ⟨p1, y1⟩ : ∃ a : Nat, dirs (under t k.path) = a := ⟨_, rfl⟩
        obtain ⟨p2, y2⟩ : ∃ a : Nat, links (under t k.path) = a := ⟨_, rfl⟩
        obtain ⟨p3, y3⟩ : ∃ a : Nat, Ft.bytes (under t k.path) = a := ⟨_, rfl⟩
        rw [t0] at m0 b1
        rw [t1] at m1 b2
        rw [t2] at m2 b3
        rw [t3] at m3 b4
        rw [y0, y1, y2, y3]
        rw [y0] at b1
        rw [y1] at b2
        rw [y2] at b3
        rw [y3] at b4
        have S8 := Lib.hid (S7.out.add (s' := flat t ks (i + 1)) (p := (s0 : Int) + p0) (q := (s1 : Int) + p1) (r := (s2 : Int) + p2) (x := (s3 : Int) + p3) (by rw [HF.out, files_app, KE.out, t0, y0]; rfl) (by rw [HF.out, dirs_app, KE.out, t1, y1]; rfl) (by rw [HF.out, links_app, KE.out, t2, y2]; rfl) (by rw [HF.out, bytes_app, KE.out, t3, y3]; rfl))
        obtain ⟨c0', c1, c2, c3, c4, c5⟩ := Q7.out.cells
        have hlt7 := lt_of_obj hS.out.sum
        have hnW : W.heap.size ≠ wc.heap.size := by omega
        have hnW' : wc.heap.size ≠ W.heap.size := by omega
        clear hb7 c0 c1 c2 c3 c4 c5 t0 t1 t2 t3 y0 y1 y2 y3
        go_wp2_with fail
        have hzz : ((((w7.setCell ⟨wc.heap.size, 0, none⟩ (.int .i64 ((s0 : Int) + p0))).setCell ⟨wc.heap.size, 1, none⟩ (.int .i64 ((s1 : Int) + p1))).setCell ⟨wc.heap.size, 2, none⟩ (.int .i64 ((s2 : Int) + p2))).setCell ⟨wc.heap.size, 3, none⟩ (.int .i64 ((s3 : Int) + p3))).heap.size = w7.heap.size := by simp [World.setCell]
        generalize ((((w7.setCell ⟨wc.heap.size, 0, none⟩ (.int .i64 ((s0 : Int) + p0))).setCell ⟨wc.heap.size, 1, none⟩ (.int .i64 ((s1 : Int) + p1))).setCell ⟨wc.heap.size, 2, none⟩ (.int .i64 ((s2 : Int) + p2))).setCell ⟨wc.heap.size, 3, none⟩ (.int .i64 ((s3 : Int) + p3))) = w8 at *
        have S9 := Lib.hid (S8.out.more (((Below.refl _ w8).alloc (Nat.le_refl _) (.cells #[.pointer (some ⟨tb, 0, none⟩)] 30)).alloc (by simp) (.cells #[S k.path] 9)))
        have hlt8 : w4.heap.size < w8.heap.size := by obtain ⟨_, _, _, h, _⟩ := S8.out.all; exact lt_of_obj h.box
        refine (walk_any tb k.path w8).mono ?_
        rintro e' w9 ⟨rfl, hw9⟩
        obtain ⟨q0, q1⟩ := two_new (w := w8) (.cells #[.pointer (some ⟨tb, 0, none⟩)] 30) (.cells #[S k.path] 9)
        have hz9 : w9.heap.size = w8.heap.size + 2 := by rw [hw9]; simp
        rw [← hw9] at q0 q1 S9
        rw [hzz] at q0 q1 hz9 hlt8
        obtain ⟨va9, vc9, l9, ha9, hl9⟩ := S9.out.all
        have hC9 : ∀ j, (j = w4.heap.size ∨ some j = (Value.slice va9 l9.length vc9).ownBlock) → w4.heap.size ≤ j ∧ j < w9.heap.size ∧ j ≠ w7.heap.size := by
          rintro j (rfl | h)
          · omega
          · obtain ⟨h1, cs, h2⟩ := own_row ha9.new.own h.symm
            refine ⟨by omega, lt_of_obj h2, ?_⟩
            rintro rfl
            rw [q0] at h2; cases h2
        have Q0 := Lib.hid q0
        have Q1 := Lib.hid q1
        have HC := Lib.hid hC9
        have A9 := Lib.hid ha9
        have L9 := Lib.hid hl9
        have hw49 := S9.out.below.size
        clear q0 q1 hC9 ha9 hl9 hw9
        go_wp2_with fail
        obtain ⟨fr, hfr⟩ : ∃ fr : Nat → EC → Act, fr = fun Bx x => { tmps := #[Value.slice va l.length vc, S dir, undef, undef, Value.bool false, Value.pointer (some { block := tb, off := 0 }), Value.slice (some { block := g, off := off }) ks.length vkc, Value.int IntKind.i64 0, Value.pointer (some { block := w4.heap.size, off := 0 }), Value.pointer (some { block := w5.heap.size, off := 0 }), Value.bool s10, Value.pointer (some { block := wc.heap.size, off := 0 }), undef, Value.pointer (some { block := W.heap.size, off := 0 }), S dir, Value.bool true, Value.int IntKind.i64 ↑p0, Value.int IntKind.i64 ↑p1, Value.int IntKind.i64 ↑p2, Value.int IntKind.i64 ↑p3, .pointer (some ⟨Bx, 0, none⟩), undef, undef, undef, undef, undef, undef, u27, u28, u29, u30, u31, u32, u33, u34, u35, u36, u37, u38, u39, u40, u41, u42, u43, u44, u45, u46, u47, u48, u49, u50, u51, u52, u53, u54, u55, u56, Value.slice (some { block := g, off := off }) ks.length vkc, Value.int IntKind.i64 ↑ks.length, Value.int IntKind.i64 ↑i, Value.bool true, Value.pointer (some { block := g, off := off + i * 6 }), Value.agg #[S k.path, Value.int IntKind.i64 k.kind, Value.int IntKind.i64 k.mode, Value.int IntKind.i64 k.time, Value.slice da (List.length k.data) dc, S k.link], Value.tuple #[S dir, Value.bool true], Value.pointer (some { block := W.heap.size, off := 0 }), Value.string { data := List.toArray k.path }, Value.tuple #[S dir, Value.bool true], S dir, Value.bool true, Value.bool true, Value.bool false, Value.bool false, S dir, S dir, Value.bool false, Value.bool false, Value.tuple #[Value.int IntKind.i64 ↑p0, Value.int IntKind.i64 ↑p1, Value.int IntKind.i64 ↑p2, Value.int IntKind.i64 ↑p3], Value.pointer (some { block := tb, off := 0 }), Value.pointer (some { block := W.heap.size, off := 0 }), S k.path, Value.tuple #[Value.int IntKind.i64 ↑p0, Value.int IntKind.i64 ↑p1, Value.int IntKind.i64 ↑p2, Value.int IntKind.i64 ↑p3], Value.int IntKind.i64 ↑p0, Value.int IntKind.i64 ↑p1, Value.int IntKind.i64 ↑p2, Value.int IntKind.i64 ↑p3, Value.pointer (some { block := wc.heap.size, off := 0 }), Value.int IntKind.i64 ↑s0, Value.int IntKind.i64 ↑p0, Value.int IntKind.i64 (↑s0 + ↑p0), Value.pointer (some { block := wc.heap.size, off := 1 }), Value.int IntKind.i64 ↑s1, Value.int IntKind.i64 ↑p1, Value.int IntKind.i64 (↑s1 + ↑p1), Value.pointer (some { block := wc.heap.size, off := 2 }), Value.int IntKind.i64 ↑s2, Value.int IntKind.i64 ↑p2, Value.int IntKind.i64 (↑s2 + ↑p2), Value.pointer (some { block := wc.heap.size, off := 3 }), Value.int IntKind.i64 ↑s3, Value.int IntKind.i64 ↑p3, Value.int IntKind.i64 (↑s3 + ↑p3), Value.pointer (some { block := wc.heap.size, off := 0 }), Value.pointer (some { block := wc.heap.size, off := 1 }), Value.pointer (some { block := wc.heap.size, off := 2 }), Value.pointer (some { block := wc.heap.size, off := 3 }), Value.pointer (some { block := tb, off := 0 }), Value.pointer (some { block := W.heap.size, off := 0 }), S k.path, Value.func (Fn.func 52) #[] #[Value.pointer (some { block := w7.heap.size, off := 0 }), Value.pointer (some { block := w7.heap.size + 1, off := 0 })], entV x.1 x.2.1 x.2.2, v110, v111, v112, v113, v114, u115, u116, u117, u118, u119, u120, u121, u122, u123, u124, u125, u126, u127, u128, u129, u130, u131, u132, u133, u134, u135, u136, u137, u138, u139, u140, u141, u142, u143, u144, u145, u146, u147, u148], defers := [] } := ⟨_, rfl⟩
        have HFR := Lib.hid hfr
        clear hfr
        refine wpIn_wide.1 (range_give (F := Fence.wide) (n := 9) rfl (by omega) (gf := 52) (lb := #[.pointer (some ⟨w7.heap.size, 0, none⟩), .pointer (some ⟨w7.heap.size + 1, 0, none⟩)]) rfl trivial (enters_of Tryd.func52 (by kernel_rfl) rfl)
          (walk_gives _ (by omega) w7.heap.size (w7.heap.size + 1) tb mb t k.path (fun j => j = w4.heap.size ∨ some j = (Value.slice va9 l9.length vc9).ownBlock) w4 w9 T4.out (HE.out.below B4.out) S9.out.below (by omega) HC.out (cell_of_block' Q0.out 0) (by omega) (cell_of_block' Q1.out 0) (by omega))
          (fun m pre x => WG.own _ _ m pre x) (fun _ => rfl) (CollI w4 w9 w4.heap.size (w4.heap.size + 1) (Value.slice va9 l9.length vc9).ownBlock l9) (fun _ _ _ => False) (fun m => collI_own _ _ _ _ _ _ _ m (Nat.le_refl _) S9.out.below.size) (fun _ _ _ _ _ h _ _ => h.elim)
          (fun W' hb hs => ⟨va9, vc9, by rw [List.append_nil]; exact A9.out.more hb, by omega, .inl (by rw [List.append_nil]), Kept.of_below hb (Nat.le_refl _)⟩)
          (fun x a' W => ∃ Bx, w9.heap.size ≤ Bx ∧ EntBox W Bx x ∧ a' = fr Bx x) (entBox_own _ _ fr) ?assign ?body ?done ?stop)
        case assign =>
          intro l m pre x W K hm hm2 hK
          gi_wp2
          exact hK _ _ ((Below.refl _ W).alloc (Nat.le_refl _) _) ⟨W.heap.size, by omega, heap_alloc_new W _, by rw [HFR.out]⟩
        case body =>
          rintro l m pre x a' W hl ⟨r, hr⟩ hI hG hmW hm2 ⟨Bx, hBx, hEB, rfl⟩
          rw [HFR.out]
          obtain ⟨x0, x1, x2, x3, x4, x5⟩ := hEB.cells
          have hpl : (l9 ++ pre).length + 1 ≤ 4294967281 := by
            rw [List.length_append]
            have h1 := hG.lt
            have h2 := congrArg List.length L9.out
            rw [List.length_map] at h2
            have h3 := congrArg List.length HU.out
            rw [flat_split t ks i, ← List.append_assoc, List.length_append] at h3
            have h4 := HUN.out dir
            have h5 := HUN.out k.path
            omega
          obtain ⟨ua, uc, ug, uc', w10, g1, g2, g3, g4, g5, g6⟩ := coll_more hI hG hmW (by omega) hpl
          obtain ⟨N, hN⟩ : ∃ N, (l9 ++ pre).length = N := ⟨_, rfl⟩
          rw [hN] at g1 g2 g3 g4 g5 g6
          clear hN
          have c0 := cell_of_block' g1 0
          have c6 := cell_of_block' g3 0
          have f6 := free_of_block g3 0
          simp at c0 c6
          have HRUN := Lib.hid g2
          rw [hz9] at g4
          have HEND := Lib.hid (show _ ∧ _ ∧ _ from ⟨g4, g5, g6⟩)
          clear g1 g2 g3 g4 g5 g6 hI hG hr hEB hpl
          gi_wp2_with (gi_at_builtin; refine wpListIn_append_run rfl _ _ 29 rfl _ _ rfl rfl _ _ rfl HRUN.out ?_)
          exact HEND.out
        case done =>
          rintro D m ys W hD hys hI hDD
          have S10 := Lib.hid (S9.out.next A9.out L9.out hI hys hD hDD)
          have HDN := Lib.hid hDD
          clear hI hys hDD
          go_wp2_with fail
          refine Handed.intro (gk - 1) (by omega) (HJ.out _ _ _ ⟨_, _, _, _, _, _, _, _, _, _, _, _, _, _, _, _, _, _, _, _, _, _, _, _, _, _, _, _, _, _, _, _, _, _, _, _, _, _, _, _, _, _, _, _, _, _, _, _, _, _, _, _, _, _, _, _, _, _, _, _, _, _, _, i + 1, D :: Ds, rfl, Lib.hid ?_, by omega, by omega⟩)
          have h := S10.out
          rw [List.append_assoc, ← KE.out, ← HF.out] at h
          exact h
        case stop =>
          rintro D c pre W _ _ h _
          exact h.elim
      · have hz : ¬ (i : Int) < (ks.length : Int) := by omega
        have hfn : find t [] = none := find_none_iff.2 fun x hx e => Pn.ne_of_valid (path_valid (T4.out.good x hx)) e
        have hss := self_size BE.out hfn
        rw [SL.out] at hss
        obtain ⟨z0, z1, z2, z3⟩ := hss
        have hSa := hS.out
        obtain ⟨hb0, hb1, hb2, hb3⟩ := HBD.out i
        have hfl : (ks.flatMap fun k => under t k.path) = flat t ks i := (flat_all t ks (by omega)).symm
        have hu := HU.out
        rw [hfl] at hu
        rw [← hu] at hSa
        have k0 := congrArg files hu
        have k1 := congrArg dirs hu
        have k2 := congrArg links hu
        have k3 := congrArg Ft.bytes hu
        rw [files_app, z0] at k0
        rw [dirs_app, z1] at k1
        rw [links_app, z2] at k2
        rw [bytes_app, z3] at k3
        generalize flat t ks i = sf at *
        have hcase : ∃ q : Bool, (dir != []) = q ∧ (dir == []) = !q ∧ ((q = false ∧ dirs (under t dir) = dirs sf) ∨ (q = true ∧ dirs (under t dir) = dirs sf + 1)) := by
          by_cases h0 : dir = []
          · exact ⟨false, by simp [h0], by simp [h0], .inl ⟨rfl, by rw [k1, if_pos h0]; omega⟩⟩
          · exact ⟨true, by rw [bne_iff_ne]; exact h0, by simp [h0], .inr ⟨rfl, by rw [k1, if_neg h0]; omega⟩⟩
        obtain ⟨q, hqd, hqe, hq2⟩ := hcase
        have BW := Lib.hid (below_then B4.out hSa.below)
        have HSZ := Lib.hid fun w h hE => size_any t tb mb dir w h hE (by omega)
        have HSA := Lib.hid hSa
        have HK := Lib.hid (show files sf = files (under t dir) ∧ links sf = links (under t dir) ∧ Ft.bytes sf = Ft.bytes (under t dir) from ⟨by omega, by omega, by omega⟩)
        clear hS hSa k0 k1 k2 k3 z0 z1 z2 z3 hfl hu hfn
        generalize wc.heap.size = b11 at *
        go_upto_if 116 with fail
        go_cut [] from 115 (fun wx => SumR w4 w4.heap.size b11 (w4.heap.size + 1) (under t dir) (under t dir) Ds wx)
        case first =>
          rcases hq2 with ⟨rfl, hd1⟩ | ⟨rfl, hd1⟩ <;> simp only [Bool.not_false, Bool.not_true] at hqe
          · have S1 := Lib.hid (HSA.out.same HK.out.1 hd1.symm HK.out.2.1 HK.out.2.2)
            clear hd1
            go_wp2_with fail
            go_meet
            case rel => exact S1.out
          · have m1 := cell_of_block' HSA.out.sum 1
            have f1 := free_of_block HSA.out.sum 1
            simp at m1
            have S1 := Lib.hid (HSA.out.add1 (q := (dirs sf : Int) + 1) HK.out.1 (by rw [hd1]; rfl) HK.out.2.1 HK.out.2.2)
            generalize dirs sf = ds at *
            clear hd1
            go_wp2_with fail
            go_meet
            case rel => exact S1.out
        case rest =>
          have S2 := Lib.hid hcut
          have E2 := Lib.hid (HE.out.below (below_then B4.out hcut.below))
          clear hcut hb0 hb1 hb2 hb3 hq2 hqd hqe
          go_wp2_with fail
          refine (HSZ.out wc (T4.out.below S2.out.below) E2.out).mono ?_
          rintro e' w12 ⟨rfl, hb12⟩
          have S12 := Lib.hid (S2.out.more hb12)
          obtain ⟨w13, hw13⟩ : ∃ w13, w12.alloc (.cells #[.slice none 0 0] 29) = w13 := ⟨_, rfl⟩
          have hz13 : w13.heap.size = w12.heap.size + 1 := by rw [← hw13]; simp
          have hb13 : Below w12.heap.size w12 w13 := by rw [← hw13]; exact (Below.refl _ _).alloc (Nat.le_refl _) _
          have h13 : w13.heap[w12.heap.size]? = some (.cells #[.slice none 0 0] 29) := by rw [← hw13]; exact heap_alloc_new w12 _
          have S13 := Lib.hid (S12.out.more hb13)
          have A13 := Lib.hid (show AllBox w4 w12.heap.size (w12.heap.size + 1) w13 none 0 [] from ⟨h13, EntsNew.nil _ _, by omega, S12.out.below.size, S13.out.below⟩)
          clear hb12 hb13 h13
          go_wp2_with fail
          refine (walk_any tb dir w13).mono ?_
          rintro e' w9 ⟨rfl, hw9⟩
          have hA9 : Below w13.heap.size w13 w9 := by rw [hw9]; exact (((Below.refl _ w13).alloc (Nat.le_refl _) (.cells #[.pointer (some ⟨tb, 0, none⟩)] 30)).alloc (by simp) (.cells #[S dir] 9))
          obtain ⟨q0, q1⟩ := two_new (w := w13) (.cells #[.pointer (some ⟨tb, 0, none⟩)] 30) (.cells #[S dir] 9)
          have hz9 : w9.heap.size = w13.heap.size + 2 := by rw [hw9]; simp
          rw [← hw9] at q0 q1
          rw [hz13] at q0 q1 hz9 ⊢
          have S9 := Lib.hid (S13.out.more hA9)
          have A9 := Lib.hid (A13.out.more hA9)
          have Q0 := Lib.hid q0
          have Q1 := Lib.hid q1
          have hw49 := S9.out.below.size
          have hwc := S12.out.below.size
          clear q0 q1 hw9 hA9 hw13
          go_wp2_with fail
          obtain ⟨fr, hfr⟩ : ∃ fr : Nat → EC → Act, fr = fun Bx x => { tmps := #[Value.slice va l.length vc, S dir, undef, undef, Value.bool false, Value.pointer (some { block := tb, off := 0 }), Value.slice vk ks.length vkc, Value.int IntKind.i64 0, Value.pointer (some { block := w4.heap.size, off := 0 }), Value.pointer (some { block := w5.heap.size, off := 0 }), Value.bool s10, Value.pointer (some { block := b11, off := 0 }), undef, v13, v14, v15, v16, v17, v18, v19, v20, Value.int IntKind.i64 ↑(files (under t dir)), Value.int IntKind.i64 ↑(dirs (under t dir)), Value.int IntKind.i64 ↑(links (under t dir)), Value.int IntKind.i64 ↑(Ft.bytes (under t dir)), Value.pointer (some { block := w12.heap.size, off := 0 }), .pointer (some ⟨Bx, 0, none⟩), u27, u28, u29, u30, u31, u32, u33, u34, u35, u36, u37, u38, u39, u40, u41, u42, u43, u44, u45, u46, u47, u48, u49, u50, u51, u52, u53, u54, u55, u56, Value.slice vk ks.length vkc, Value.int IntKind.i64 ↑ks.length, Value.int IntKind.i64 ↑i, Value.bool false, v61, v62, v63, v64, v65, v66, v67, v68, v69, v70, v71, v72, v73, v74, v75, v76, v77, v78, v79, v80, v81, v82, v83, v84, v85, v86, v87, v88, v89, v90, v91, v92, v93, v94, v95, v96, v97, v98, v99, v100, v101, v102, v103, v104, v105, v106, v107, v108, v109, v110, v111, v112, v113, v114, u115, u116, u117, u118, u119, u120, Value.tuple #[Value.int IntKind.i64 ↑(files (under t dir)), Value.int IntKind.i64 ↑(dirs (under t dir)), Value.int IntKind.i64 ↑(links (under t dir)), Value.int IntKind.i64 ↑(Ft.bytes (under t dir))], Value.pointer (some { block := tb, off := 0 }), S dir, Value.tuple #[Value.int IntKind.i64 ↑(files (under t dir)), Value.int IntKind.i64 ↑(dirs (under t dir)), Value.int IntKind.i64 ↑(links (under t dir)), Value.int IntKind.i64 ↑(Ft.bytes (under t dir))], Value.int IntKind.i64 ↑(files (under t dir)), Value.int IntKind.i64 ↑(dirs (under t dir)), Value.int IntKind.i64 ↑(links (under t dir)), Value.int IntKind.i64 ↑(Ft.bytes (under t dir)), Value.pointer (some { block := tb, off := 0 }), S dir, Value.func (Fn.func 52) #[] #[Value.pointer (some { block := w12.heap.size + 1, off := 0 }), Value.pointer (some { block := w12.heap.size + 1 + 1, off := 0 })], entV x.1 x.2.1 x.2.2, u133, u134, u135, u136, u137, u138, u139, u140, u141, u142, u143, u144, u145, u146, u147, u148], defers := [] } := ⟨_, rfl⟩
          have HFR := Lib.hid hfr
          clear hfr
          have HC2 := Lib.hid (show ∀ j, (j = w12.heap.size ∨ some j = none) → w4.heap.size ≤ j ∧ j < w9.heap.size ∧ j ≠ w12.heap.size + 1 by
            rintro j (h | h)
            · omega
            · cases h)
          refine wpIn_wide.1 (range_give (F := Fence.wide) (n := 9) rfl (by omega) (gf := 52) (lb := #[.pointer (some ⟨w12.heap.size + 1, 0, none⟩), .pointer (some ⟨w12.heap.size + 1 + 1, 0, none⟩)]) rfl trivial (enters_of Tryd.func52 (by kernel_rfl) rfl)
            (walk_gives _ (by omega) (w12.heap.size + 1) (w12.heap.size + 1 + 1) tb mb t dir (fun j => j = w12.heap.size ∨ some j = none) w4 w9 T4.out (HE.out.below B4.out) S9.out.below (by omega) HC2.out (cell_of_block' Q0.out 0) (by omega) (cell_of_block' Q1.out 0) (by omega))
            (fun m pre x => WG.own _ _ m pre x) (fun _ => rfl) (CollI w4 w9 w12.heap.size (w12.heap.size + 1) none []) (fun _ _ _ => False) (fun m => collI_own _ _ _ _ _ _ _ m (Nat.le_refl _) S9.out.below.size) (fun _ _ _ _ _ h _ _ => h.elim)
            (fun W' hb hs => ⟨none, 0, A9.out.more hb, by omega, .inl rfl, Kept.of_below hb (Nat.le_refl _)⟩)
            (fun x a' W => ∃ Bx, w9.heap.size ≤ Bx ∧ EntBox W Bx x ∧ a' = fr Bx x) (entBox_own _ _ fr) ?assign ?body ?done ?stop)
          case assign =>
            intro l m pre x W K hm hm2 hK
            gi_wp2
            exact hK _ _ ((Below.refl _ W).alloc (Nat.le_refl _) _) ⟨W.heap.size, by omega, heap_alloc_new W _, by rw [HFR.out]⟩
          case body =>
            rintro l m pre x a' W hl ⟨r, hr⟩ hI hG hmW hm2 ⟨Bx, hBx, hEB, rfl⟩
            rw [HFR.out]
            obtain ⟨x0, x1, x2, x3, x4, x5⟩ := hEB.cells
            have hpl : (([] : List EC) ++ pre).length + 1 ≤ 4294967281 := by
              rw [List.nil_append]
              have h1 := hG.lt
              have h4 := HUN.out dir
              omega
            obtain ⟨ua, uc, ug, uc', w10, g1, g2, g3, g4, g5, g6⟩ := coll_more hI hG hmW (by omega) hpl
            obtain ⟨N, hN⟩ : ∃ N, (([] : List EC) ++ pre).length = N := ⟨_, rfl⟩
            rw [hN] at g1 g2 g3 g4 g5 g6
            clear hN
            have c0 := cell_of_block' g1 0
            have c6 := cell_of_block' g3 0
            have f6 := free_of_block g3 0
            simp at c0 c6
            have HRUN := Lib.hid g2
            rw [hz9] at g4
            have HEND := Lib.hid (show _ ∧ _ ∧ _ from ⟨g4, g5, g6⟩)
            clear g1 g2 g3 g4 g5 g6 hI hG hr hEB hpl
            gi_wp2_with (gi_at_builtin; refine wpListIn_append_run rfl _ _ 29 rfl _ _ rfl rfl _ _ rfl HRUN.out ?_)
            exact ⟨HEND.out.1, HEND.out.2.1.wider (fun i h => by
              rcases h with h | h
              · exact h
              · cases h), HEND.out.2.2⟩
          case done =>
            rintro D m ys W hD hys ⟨va25, vc25, hA25, _, _, hk25⟩ hDD
            have hlt12 : w4.heap.size < w12.heap.size := by obtain ⟨_, _, _, h, _⟩ := S12.out.all; exact lt_of_obj h.box
            have hg25 : w9.grownBy W (some w12.heap.size) := ⟨hk25.os, hk25.tape, hk25.output, hk25.size, fun i hi hr => hk25.block i hi (by
              rintro (h | h)
              · exact hr (by rw [h])
              · cases h)⟩
            have SW := Lib.hid (S9.out.other hg25 A9.out.box (by omega) hwc)
            obtain ⟨va8', vc8', l8', ha8, hl8'⟩ := SW.out.all
            obtain ⟨N, hN⟩ : ∃ N, (under t dir).length = N := ⟨_, rfl⟩
            have hN8 : l8'.length = N := by rw [← hN, ← hl8', List.length_map]
            have hN25 : (([] : List EC) ++ ys).length = N := by rw [← hN, ← hys, List.length_map]; rfl
            have hb8 := ha8.box
            have hb25 := hA25.box
            rw [hN8] at hb8
            rw [hN25] at hb25
            have c8 := cell_of_block' hb8 0
            have c25 := cell_of_block' hb25 0
            simp at c8 c25
            have e8 := ha8.new.at
            have e25 := hA25.new.at
            rw [hl8'] at e8
            rw [List.nil_append, hys] at e25
            have HSM := Lib.hid (sameAll_any (under t dir) (under t dir) va25 va8' vc25 vc8' W (by have := HUN.out dir; omega) (by have := HUN.out dir; omega) e25 e8)
            rw [hN, decide_eq_true rfl] at HSM
            have m0 := cell_of_block' SW.out.sum 0
            have m1 := cell_of_block' SW.out.sum 1
            have m2 := cell_of_block' SW.out.sum 2
            have m3 := cell_of_block' SW.out.sum 3
            simp at m0 m1 m2 m3
            have HDD := Lib.hid hDD
            have hw4 := B4.out.size
            generalize files (under t dir) = a0 at m0 ⊢
            generalize dirs (under t dir) = a1 at m1 ⊢
            generalize links (under t dir) = a2 at m2 ⊢
            generalize Ft.bytes (under t dir) = a3 at m3 ⊢
            have hEQ := eq4 a0 a1 a2 a3 W
            clear hk25 hg25 ha8 hA25 hl8' hN hN8 hN25 hb8 hb25 e8 e25 hDD hys
            go_wp2_with fail
            refine HSM.out.mono ?_
            rintro e' w20 ⟨rfl, hb20⟩
            have HB20 := Lib.hid hb20
            clear hb20
            go_wp2_with fail
            refine leaves_colls w.heap.size (D :: Ds) w20 ?_ ?_ (fun W' hb' => ⟨.bool true, by simp [results, Tryd.results6, go_sem], rfl, ?_⟩)
            · refine List.nodup_cons.2 ⟨fun hm => ?_, SW.out.nodup⟩
              have := lt_of_obj (S9.out.defs D hm).2
              omega
            · intro D' hD'
              rcases List.mem_cons.1 hD' with rfl | hD'
              · exact ⟨by omega, (HB20.out.block _ (lt_of_obj HDD.out)).trans HDD.out⟩
              · exact ⟨by have := (SW.out.defs D' hD').1; omega, (HB20.out.block _ (lt_of_obj (SW.out.defs D' hD').2)).trans (SW.out.defs D' hD').2⟩
            · exact (below_then (below_then B4.out SW.out.below) HB20.out).trans hb'
          case stop =>
            rintro D c pre W _ _ h _
            exact h.elim

end Go.Proofs.YtdcghpeomaailaaDoor
