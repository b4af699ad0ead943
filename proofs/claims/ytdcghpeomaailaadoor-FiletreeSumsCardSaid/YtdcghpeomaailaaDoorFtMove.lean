/-
  The walk of (*Tree).Move.
-/
import Derived.Test.YtdcghpeomaailaaDoorFtRemove
import Derived.Test.YtdcghpeomaailaaDoorFtMovable
import Derived.Test.YtdcghpeomaailaaDoorFtMoveP
import Derived.Test.YtdcghpeomaailaaDoorFtOwn
namespace Go.Proofs.YtdcghpeomaailaaDoor
open Go.RowKit Go.Lib Ft

theorem bytes_cat (x y : Pn.B) : ((⟨x.toArray⟩ : ByteArray) ++ (⟨y.toArray⟩ : ByteArray)) = ⟨(x ++ y).toArray⟩ := by
  apply ByteArray.ext
  rw [ByteArray.data_append]
  simp

/-- What is moved: the entries with their new paths, their bytes where they lay. -/
def Moved (w2 : World) (a b : Pn.B) (u : List Ent) (l : List EC) : Prop :=
  l.map Prod.fst = u.map (fun e => e.shift a b) ∧ ∀ p ∈ l, p.1.data.length ≤ p.2.2 ∧ BytesAt w2 p.2.1 p.1.data

def MoveRel1 (a b : Pn.B) (u : List Ent) (w2 : World) (v8 v29 : Value) (gg : Nat) (wr : World) : Prop :=
  ∃ (i : Nat) (va : Option Addr) (vc : Nat) (l : List EC), v29 = .int .i64 i ∧ i ≤ u.length ∧ u.length - i ≤ gg ∧ v8 = .slice va i vc ∧ l.length = i ∧ EntsMem wr w2.heap.size (.slice va l.length vc) l ∧ Moved w2 a b (u.take i) l ∧
    ((u.take i).all fun e => Pn.validP (e.shift a b).path) = true ∧ Below w2.heap.size w2 wr

def MoveRel3 (f : List Ent) (ms : List Ent) (tb mb : Nat) (w4 : World) (v68 : Value) (gg : Nat) (wr : World) : Prop :=
  ∃ i : Nat, v68 = .int .i64 i ∧ i ≤ ms.length ∧ ms.length - i ≤ gg ∧ TreeMem wr tb mb ((ms.take i).foldl (fun t e => insE e t) f) ∧ w4.grownBy wr (some mb)

set_option maxHeartbeats 4000000 in
set_option maxRecDepth 100000 in
theorem move_any (t : List Ent) (tb mb : Nat) (a b : Pn.B) (w : World) (hT : TreeMem w tb mb t) (hE : Env w) (ha : a.length < 4294960000) (hb : b.length < 4294960000) :
    Calls Tryd.prog 30 #[.pointer (some ⟨tb, 0, none⟩), S a, S b] w (OpOk (Ft.move t a b) tb mb w) := by
  have HM := Lib.hid (movable_any t tb mb a b w hT hE (by omega) (by omega))
  have HT := Lib.hid hT
  have HE := Lib.hid hE
  by_cases hmz : movable t a b = 0
  · rw [hmz] at HM
    have hva : Pn.validP a = true := by
      unfold movable at hmz
      split at hmz
      · cases hmz
      · rename_i h
        cases hx : Pn.validP a with
        | true => rfl
        | false => exact absurd (.inl hx) h
    have hane : a ≠ [] := by rintro rfl; exact absurd hva (by decide)
    have hfa : find t a ≠ none := by
      unfold movable at hmz
      intro h
      rw [if_pos h] at hmz
      split at hmz <;> cases hmz
    have HFA := Lib.hid hfa
    have HANE := Lib.hid hane
    have HR := Lib.hid (show Ft.move t a b = if ((under t a).all fun e => Pn.validP (e.shift a b).path) = false then (t, 2) else (((under t a).map fun e => e.shift a b).foldl (fun t e => insE e t) (t.filter fun e => !Pn.withinP a e.path), 0) by unfold Ft.move; rw [if_neg (by rw [hmz]; simp)])
    have HAT := Lib.hid fun W (h : TreeMem W tb mb t) (h2 : Env W) => at_any t tb mb a W h h2 (by omega)
    obtain ⟨u, hu⟩ : ∃ u, under t a = u := ⟨_, rfl⟩
    have HU := Lib.hid hu
    have hul : u.length ≤ 4096 := by
      have h1 := hT.few
      have h2 : u.length ≤ t.length := by
        rw [← hu]; unfold under; split
        · simp
        · exact List.length_filter_le _ _
      omega
    have hue : u ≠ [] := by
      rw [← hu, under_eq (.inl hfa)]
      cases hf : find t a with
      | none => exact absurd hf hfa
      | some e =>
        obtain ⟨h1, h2⟩ := find_some hf
        intro h3
        have : e ∈ t.filter (fun e => Pn.withinP a e.path) := List.mem_filter.2 ⟨h1, by rw [h2]; unfold Pn.withinP; rw [hva]; simp⟩
        rw [h3] at this; cases this
    have HUT := Lib.hid fun e (he : e ∈ u) => (under_sub (hu ▸ he : e ∈ under t a)).1
    have HUW := Lib.hid fun e (he : e ∈ u) => (under_sub (hu ▸ he : e ∈ under t a)).2
    have HUE := Lib.hid hue
    have HV := Lib.hid fun e (he : e ∈ u) => hT.good e (HUT.out e he)
    have HVAL := Lib.hid fun (p : Pn.B) W (hp : p.length < 4294967281) (h : Env W) => valid_any ⟨p.toArray⟩ W hp h
    have HTR := Lib.hid fun (p : Pn.B) W => Tryd.strings_TrimPrefix ⟨p.toArray⟩ ⟨a.toArray⟩ W
    rw [hu] at HR
    unfold AtOk at HAT
    rw [hu] at HAT
    clear hT hE hmz hva hane hfa hu hue
    go_enter Tryd.func30, Tryd.ntmps30
    go_wp2_with fail
    refine HM.out.mono ?_
    rintro e' w1 ⟨rfl, hb1⟩
    have HB1 := Lib.hid hb1
    clear hb1
    go_wp2_with fail
    refine (HAT.out w1 (HT.out.below HB1.out) (HE.out.below HB1.out)).mono ?_
    rintro e' w2 ⟨va, vc, rfl, hrow, hb2⟩
    rcases hrow with hnil | ⟨g, rfl, hge, hglt, hrow⟩
    · exact absurd hnil HUE.out
    have HROW := Lib.hid hrow
    have HB2 := Lib.hid (below_then HB1.out hb2)
    have HT2 := Lib.hid (HT.out.below HB2.out)
    have HE2 := Lib.hid (HE.out.below HB2.out)
    clear hrow hb2
    go_wp2_with fail
    go_loopg [8, 29] u.length (fun gg v8 v29 wr => MoveRel1 a b u w2 v8 v29 gg wr)
    case atStart => exact ⟨0, none, 0, [], rfl, Nat.zero_le _, by omega, rfl, rfl, World.ownsRow_nil _ _ _ _, ⟨rfl, by simp⟩, rfl, Below.refl _ _⟩
    case round =>
      obtain ⟨i, va, vc2, l, rfl, hi, hgg, rfl, hll, hmem, hmv, hall, hbw⟩ := hrel
      by_cases hlt : i < u.length
      · have hz : (i : Int) < (u.length : Int) := by omega
        have r0 := (HROW.out.below hbw hglt) i (by rw [List.length_map]; exact hlt)
        rw [Nat.zero_add] at r0
        simp only [List.getElem_map] at r0
        have heu := List.getElem_mem hlt
        have htk : u.take (i + 1) = u.take i ++ [u[i]] := by rw [List.take_succ_eq_append_getElem hlt]
        have hfind := find_of HT.out.sorted (HUT.out _ heu)
        have hev := HV.out _ heu
        have hwi := HUW.out _ heu
        obtain ⟨e, he⟩ : ∃ e, u[i] = e := ⟨_, rfl⟩
        rw [he] at r0 htk hfind hev hwi heu
        have hpl := valid_path_len hev
        have hct := (HT2.out.below hbw).cell
        obtain ⟨da, dc, hdc, hby, hlk⟩ := HT2.out.lookP (HUT.out e heu)
        have hlk2 := hlk wr hbw
        have HTRe := Lib.hid (HTR.out e.path)
        have htrim := trim_within hwi HANE.out
        rw [htrim] at HTRe
        go_wp2_with (go_at_call 54; refine (HTRe.out _).mono ?_; rintro e' w' ⟨rfl, rfl⟩)
        rw [bytes_cat, show b ++ List.drop a.length e.path = (e.shift a b).path from rfl]
        have hsl : (e.shift a b).path.length ≤ b.length + e.path.length := by
          show (b ++ e.path.drop a.length).length ≤ _
          rw [List.length_append, List.length_drop]; omega
        have hbA : Below w2.heap.size w2 (wr.alloc (.cells #[S (e.shift a b).path, .int .i64 e.kind, .int .i64 e.mode, .int .i64 e.time, .slice da e.data.length dc, S e.link] 25)) := hbw.alloc hbw.size _
        have hN := heap_alloc_new wr (.cells #[S (e.shift a b).path, .int .i64 e.kind, .int .i64 e.mode, .int .i64 e.time, .slice da e.data.length dc, S e.link] 25)
        have hAA : Below wr.heap.size wr (wr.alloc (.cells #[S (e.shift a b).path, .int .i64 e.kind, .int .i64 e.mode, .int .i64 e.time, .slice da e.data.length dc, S e.link] 25)) := (Below.refl _ _).alloc (Nat.le_refl _) _
        have hsA : wr.heap.size < (wr.alloc (.cells #[S (e.shift a b).path, .int .i64 e.kind, .int .i64 e.mode, .int .i64 e.time, .slice da e.data.length dc, S e.link] 25)).heap.size := by simp
        have HV1 := Lib.hid (HVAL.out (e.shift a b).path _ (by omega) (HE2.out.below hbA))
        have hall2 : ((u.take (i + 1)).all fun e => Pn.validP (e.shift a b).path) = Pn.validP (e.shift a b).path := by
          rw [htk, List.all_append, hall]; simp
        have HALL := Lib.hid hall2
        have HN := Lib.hid hN
        have HAA := Lib.hid hAA
        have HBA := Lib.hid hbA
        have HSA := Lib.hid hsA
        have HMEM := Lib.hid hmem
        have HMV := Lib.hid hmv
        have HTK := Lib.hid htk
        clear hN hAA hbA hsA hmem hmv htk hall2 hlk hlk2 hsl HTRe htrim hfind
        refine HV1.out.mono ?_
        rintro e' w4 ⟨rfl, hb4⟩
        have hb4' := HAA.out.trans (hb4.mono (Nat.le_of_lt HSA.out))
        cases hvn : Pn.validP (e.shift a b).path with
        | false =>
          have HX := Lib.hid (show Ft.move t a b = (t, 2) by
            rw [HR.out, if_pos]
            rw [List.all_eq_false]
            exact ⟨e, heu, by rw [hvn]; simp⟩)
          have HB4 := Lib.hid (HB2.out.trans ((hbw.trans (hb4'.mono hbw.size)).mono HB2.out.size))
          clear hb4 hb4'
          go_wp2_with fail
          go_ret
          exact ⟨by rw [HX.out]; rfl, by rw [HX.out]; exact HT.out.below HB4.out, grown_below HB4.out _⟩
        | true =>
          have HQ := Lib.hid ((hb4.block wr.heap.size HSA.out).trans HN.out)
          have a0 := cell_of_block' HQ.out 0
          have a1 := cell_of_block' HQ.out 1
          have a2 := cell_of_block' HQ.out 2
          have a3 := cell_of_block' HQ.out 3
          have a4 := cell_of_block' HQ.out 4
          have a5 := cell_of_block' HQ.out 5
          simp at a0 a1 a2 a3 a4 a5
          have hm4 : EntsMem w4 w2.heap.size (.slice va l.length vc2) l := HMEM.out.kept (grown_below hb4' none) (by cases (Value.slice va l.length vc2).ownBlock <;> simp)
          obtain ⟨va', vc', w5, hrun, hm5, hB5, _⟩ := ents_app hm4 (hbw.trans (hb4'.mono hbw.size)) (Nat.le_refl _) (Nat.le_trans hbw.size hb4'.size) (e.shift a b, da, dc) (by omega)
          rw [hll] at hrun hm5
          have HRUN := Lib.hid hrun
          have HM5 := Lib.hid hm5
          have HB5 := Lib.hid hB5
          clear hrun hm5 hB5 hm4 hb4 hb4'
          go_wp2_with (at_builtin; refine wpList_append_run rfl _ _ 29 rfl _ _ rfl rfl _ _ rfl HRUN.out ?_)
          go_roundg (u.length - (i + 1))
          case measure => omega
          case rel =>
            refine ⟨i + 1, va', vc', l ++ [(e.shift a b, da, dc)], by go_num, by omega, by omega, rfl, by simp [hll], by rw [List.length_append, hll]; exact HM5.out, ⟨?_, ?_⟩, by rw [HALL.out, hvn], HB5.out⟩
            · rw [HTK.out, List.map_append, List.map_append, HMV.out.1]; rfl
            · intro p hp
              rcases List.mem_append.1 hp with hp | hp
              · exact HMV.out.2 p hp
              · simp only [List.mem_singleton] at hp
                subst hp
                exact ⟨hdc, hby⟩
      · have hz : ¬ (i : Int) < (u.length : Int) := by omega
        have hiu : i = u.length := by omega
        subst hiu
        rw [List.take_length] at hmv hall
        have HRF := Lib.hid (show Ft.move t a b = ((u.map fun e => e.shift a b).foldl (fun t e => insE e t) (t.filter fun e => !Pn.withinP a e.path), 0) by rw [HR.out, if_neg (by rw [hall]; simp)])
        have HSV := Lib.hid fun e (he : e ∈ u) => shift_valid (HV.out e he) (List.all_eq_true.1 hall e he)
        obtain ⟨ps, hps⟩ : ∃ ps, ps = (under t a).map fun e => e.path := ⟨_, rfl⟩
        have HDA := Lib.hid (del_all t ps a hps (.inl HFA.out) HT.out.sorted)
        have hpl : ps.length = u.length := by rw [hps, HU.out]; simp
        have HPS := Lib.hid hps
        have HLEN := Lib.hid fun p (hp : p ∈ ps) => show p.length ≤ 4294967296 from by
          rw [HPS.out] at hp
          obtain ⟨e, he, rfl⟩ := List.mem_map.1 hp
          have := valid_path_len (HT.out.good e (under_sub he).1)
          omega
        have HTW := Lib.hid (HT2.out.below hbw)
        have HROW2 := Lib.hid (HROW.out.below hbw hglt)
        have HBW := Lib.hid (HB2.out.trans (hbw.mono HB2.out.size))
        have HBX := Lib.hid hbw
        have hmbl := HT2.out.mb_lt
        have HMEM := Lib.hid hmem
        have HMV := Lib.hid hmv
        have hgl2 : g < wr.heap.size := Nat.lt_of_lt_of_le hglt hbw.size
        have h0 : ¬ u.length = 0 := fun h => HUE.out (List.length_eq_zero_iff.1 h)
        clear hps hall hmem hmv hbw
        go_wp2_with fail
        go_loopg [56] u.length (fun gg v wx => DelRel t ps tb mb wr v gg wx)
        case atStart => exact ⟨0, rfl, Nat.zero_le _, by omega, by simpa [List.filter_eq_self.2] using HTW.out, grown_below (Below.refl _ _) _⟩
        case round =>
          obtain ⟨i, rfl, hi, hgg, hTx, hg⟩ := hrel
          by_cases hlt : i < ps.length
          · have hz3 : (i : Int) < (u.length : Int) := by omega
            have r0 := (HROW2.out.kept hgl2 hg (by rintro r e; cases e; exact HTW.out.noCells)) i (by rw [List.length_map]; omega)
            rw [Nat.zero_add] at r0
            simp only [List.getElem_map] at r0
            have hps2 : ps[i] = (u[i]'(by omega)).path := by
              simp only [HPS.out, HU.out, List.getElem_map]
            rw [← hps2] at r0
            have hct := hTx.cell
            obtain ⟨w4, hrun, hT4, hg4⟩ := hTx.del ps[i] (HLEN.out _ (List.getElem_mem hlt)) 0
            rw [del_step t ps hlt] at hT4
            generalize ps[i] = pi at *
            have HT4 := Lib.hid hT4
            have HG4 := Lib.hid (hg.trans hg4)
            clear hTx hg hT4 hg4 hps2
            go_wp2_with fail
            go_roundg (u.length - (i + 1))
            case measure => omega
            case rel => exact ⟨i + 1, by go_num, by omega, by omega, HT4.out, HG4.out⟩
          · have hz3 : ¬ (i : Int) < (u.length : Int) := by omega
            have hiu : i = ps.length := by omega
            subst hiu
            rw [HDA.out] at hTx
            have hm3 : EntsMem wr w2.heap.size (.slice va l.length vc2) l := HMEM.out.kept hg (by
              rcases hob : (Value.slice va l.length vc2).ownBlock with _ | r
              · exact .inl rfl
              · refine .inr fun e1 => ?_
                have := (HMEM.out.lt r hob).1
                cases e1
                omega)
            have HM3 := Lib.hid hm3
            have HG3 := Lib.hid (grown_then HBW.out hg)
            have HTX := Lib.hid hTx
            have hbyt : ∀ p ∈ l, p.1.data.length ≤ p.2.2 ∧ BytesAt wr p.2.1 p.1.data := fun p hp => by
              obtain ⟨h1, h2⟩ := HMV.out.2 p hp
              exact ⟨h1, (h2.below HBX.out).kept hg (by rintro r e; cases e; exact HTW.out.noCells)⟩
            have HBY := Lib.hid hbyt
            have HNC := Lib.hid hTx.noCells
            have hfs := filter_sorted HT.out.sorted fun e => !Pn.withinP a e.path
            have hflen : (t.filter fun e => !Pn.withinP a e.path).length + u.length ≤ 4096 := by
              have h1 := filter_compl (fun e : Ent => Pn.withinP a e.path) t
              have h2 : u = t.filter fun e => Pn.withinP a e.path := by rw [← HU.out, under_eq (.inl HFA.out)]
              have h3 := HT.out.few
              rw [← h2] at h1
              omega
            obtain ⟨f, hf⟩ : ∃ f, (t.filter fun e => !Pn.withinP a e.path) = f := ⟨_, rfl⟩
            rw [hf] at HTX HRF hfs hflen
            have HFS := Lib.hid hfs
            have hll2 : l.length = (u.map fun e => e.shift a b).length := by rw [List.length_map]; exact hll
            have hmf := HMV.out.1
            have HMF := Lib.hid hmf
            clear hm3 hTx hbyt hfs hf hmf hg
            rw [hll] at HM3
            go_wp2_with fail
            go_loopg [68] u.length (fun gg v wx => MoveRel3 f (u.map fun e => e.shift a b) tb mb wr v gg wx)
            case atStart => exact ⟨0, rfl, Nat.zero_le _, by rw [List.length_map]; exact Nat.le_refl _, HTX.out, grown_below (Below.refl _ _) _⟩
            case round =>
              obtain ⟨i, rfl, hi, hgg, hT5, hg5⟩ := hrel
              rw [List.length_map] at hi hgg
              by_cases hlt2 : i < u.length
              · have hz4 : (i : Int) < (u.length : Int) := by omega
                obtain ⟨g3, hva, hge3, hlt3, hrow3⟩ := (show EntsMem _ w2.heap.size (.slice va l.length vc2) l by rw [hll]; exact HM3.out).get (i := i) (by omega)
                subst hva
                have hrow4 := hrow3.kept hlt3 hg5 (by rintro r e; cases e; exact HNC.out)
                have hli : i < l.length := by omega
                have hx1 : l[i].1 = (u[i]).shift a b := by
                  have h1 : (l.map Prod.fst)[i]'(by rw [List.length_map]; exact hli) = (u.map fun e => e.shift a b)[i]'(by rw [List.length_map]; exact hlt2) := by simp only [HMF.out]
                  rw [List.getElem_map, List.getElem_map] at h1
                  exact h1
                have hval := HSV.out _ (List.getElem_mem hlt2)
                rw [← hx1] at hval
                obtain ⟨hdc, hby⟩ := HBY.out _ (List.getElem_mem hli)
                have hby5 := hby.kept hg5 (by rintro r e; cases e; exact HNC.out)
                have hft := fold_take (u.map fun e => e.shift a b) f (i := i) (by rw [List.length_map]; exact hlt2)
                rw [List.getElem_map, ← hx1] at hft
                have hfl := fold_le ((u.map fun e => e.shift a b).take (i + 1)) HFS.out
                rw [hft, List.length_take, List.length_map] at hfl
                clear hrow3 hx1 hby
                generalize l[i] = x at *
                obtain ⟨e, da, dc⟩ := x
                simp only at hval hdc hby5 hft hfl hrow4
                have r0 := hrow4 0 (by simp)
                have r1 := hrow4 1 (by simp)
                have r2 := hrow4 2 (by simp)
                have r3 := hrow4 3 (by simp)
                have r4 := hrow4 4 (by simp)
                have r5 := hrow4 5 (by simp)
                simp only [List.getElem_cons_zero, List.getElem_cons_succ, Nat.add_zero] at r0 r1 r2 r3 r4 r5
                have hbA : Below wr.heap.size wr (wr.alloc (.cells #[S e.path, .int .i64 e.kind, .int .i64 e.mode, .int .i64 e.time, .slice da e.data.length dc, S e.link] 25)) := (Below.refl _ _).alloc (Nat.le_refl _) _
                have hN := heap_alloc_new wr (.cells #[S e.path, .int .i64 e.kind, .int .i64 e.mode, .int .i64 e.time, .slice da e.data.length dc, S e.link] 25)
                have HT5 := Lib.hid hT5
                have HG5 := Lib.hid hg5
                have HFT := Lib.hid hft
                have HBY5 := Lib.hid hby5
                clear hT5 hg5 hft hby5 hrow4
                go_wp2_with fail
                generalize (wr.alloc (.cells #[S e.path, .int .i64 e.kind, .int .i64 e.mode, .int .i64 e.time, .slice da e.data.length dc, S e.link] 25)) = W1 at *
                have hbD : Below wr.heap.size wr W1.drew := hbA.drew
                have HQ := Lib.hid (show W1.drew.heap[wr.heap.size]? = _ from hN)
                have hT6 := HT5.out.below hbD
                have ct := hT6.cell
                obtain ⟨w6, hrun6, hT7, hg7⟩ := hT6.store (e := e) (v := entV e da dc) ⟨da, dc, rfl, hdc, HBY5.out.below hbD⟩ hval (by omega)
                rw [← HFT.out] at hT7
                have HT7 := Lib.hid hT7
                have HG7 := Lib.hid (HG5.out.trans (grown_then hbD hg7))
                clear hT7 hg7 hN hbA hbD hT6 r0 r1 r2 r3 r4 r5
                generalize hW2 : W1.drew = W2 at *
                have a0 := cell_of_block' HQ.out 0
                have a1 := cell_of_block' HQ.out 1
                have a2 := cell_of_block' HQ.out 2
                have a3 := cell_of_block' HQ.out 3
                have a4 := cell_of_block' HQ.out 4
                have a5 := cell_of_block' HQ.out 5
                simp at a0 a1 a2 a3 a4 a5
                subst hW2
                go_region
                all_goals go_wp2_with fail
                all_goals go_roundg (u.length - (i + 1))
                all_goals try (case measure => omega)
                all_goals exact ⟨i + 1, by go_num, by rw [List.length_map]; omega, by rw [List.length_map]; exact Nat.le_refl _, HT7.out, HG7.out⟩
              · have hz4 : ¬ (i : Int) < (u.length : Int) := by omega
                have hiu : i = u.length := by omega
                subst hiu
                rw [show u.length = (u.map fun e => e.shift a b).length by simp, List.take_length] at hT5
                have HT6 := Lib.hid hT5
                have HG6 := Lib.hid (HG3.out.trans hg5)
                clear hT5 hg5
                go_wp2_with fail
                go_ret
                exact ⟨by rw [HRF.out]; rfl, by rw [HRF.out]; exact HT6.out, HG6.out⟩
  · have hq : (movable t a b == 0) = false := by rw [beq_eq_false_iff_ne]; exact hmz
    have HR := Lib.hid (show Ft.move t a b = (t, movable t a b) by unfold Ft.move; rw [if_pos hmz])
    clear hmz hT hE
    generalize movable t a b = r at *
    go_enter Tryd.func30, Tryd.ntmps30
    go_wp2_with fail
    refine HM.out.mono ?_
    rintro e' w1 ⟨rfl, hb1⟩
    have HB := Lib.hid hb1
    clear hb1
    go_wp2_with fail
    go_ret
    exact ⟨by rw [HR.out]; rfl, by rw [HR.out]; exact HT.out.below HB.out, grown_below HB.out _⟩

end Go.Proofs.YtdcghpeomaailaaDoor
