/-
  The walk of pathname.compile.
-/
import Derived.Test.YtdnbmkfmckppaaaDoorItemsW
namespace Go.Proofs.YtdnbmkfmckppaaaDoor
open Go.RowKit Go.Lib

theorem comp_info : (Tryd.prog.info? 81).map (fun i => (i.zero, i.size, i.bytes)) = some (some (.slice none 0 0), 1, 24) := by kernel_rfl

/-- A component of a pattern in memory: its items with the slices of their spans (none for '**'), and its own slice. -/
abbrev CompV := Option (List (Pn.Item × Value)) × Value

def CompV.plain (q : CompV) : Option (List Pn.Item) := q.1.map fun ps => ps.map Prod.fst

/-- A pattern in memory. -/
structure PatMem (w : World) (base : Nat) (v : Value) (qs : List CompV) : Prop where
  own : w.ownsRow base 81 1 v qs.length (qs.map Prod.snd)
  comps : ∀ q ∈ qs, match q.1 with
    | none => q.2 = .slice none 0 0
    | some ps => ps ≠ [] ∧ ItemsMem w base q.2 ps

theorem PatMem.below {w w' : World} {base : Nat} {v : Value} {qs : List CompV} (h : PatMem w base v qs) (hb : Below w.heap.size w w') : PatMem w' base v qs :=
  ⟨h.own.kept (grown_below hb none) (by cases v.ownBlock <;> simp), fun q hq => by
    have := h.comps q hq
    split at this
    · exact this
    · exact ⟨this.1, this.2.below hb⟩⟩

theorem PatMem.mono {w : World} {base base' : Nat} {v : Value} {qs : List CompV} (h : PatMem w base v qs) (hb : base' ≤ base) : PatMem w base' v qs :=
  ⟨own_mono h.own hb, fun q hq => by
    have := h.comps q hq
    split at this
    · exact this
    · exact ⟨this.1, this.2.mono hb⟩⟩

/-- An append to a slice of another type leaves items as they are. -/
theorem ItemsMem.apart {w w' : World} {base base2 : Nat} {v v2 : Value} {ps : List (Pn.Item × Value)} {e : TypeId} {sz n : Nat} {xs : List Value} (h : ItemsMem w base v ps) (h2 : w.ownsRow base2 e sz v2 n xs) (hg : w.grownBy w' v2.ownBlock)
    (h1 : 106 ≠ e) (h3 : 109 ≠ e) : ItemsMem w' base v ps :=
  ⟨h.own.kept hg (own_apart h.own h2 h1), fun p hp => (h.spans p hp).kept hg (own_apart (h.spans p hp) h2 h3)⟩

/-- The append of one component. -/
theorem pat_app {w w2 : World} {va : Option Addr} {vc : Nat} {qs : List CompV} (hm : PatMem w2 w.heap.size (.slice va qs.length vc) qs) (hB : Below w.heap.size w w2) (q : CompV) (h1 : q.2.oneCell' = true)
    (hq : match q.1 with
      | none => q.2 = .slice none 0 0
      | some ps => ps ≠ [] ∧ ItemsMem w2 w.heap.size q.2 ps) (hps : qs.length + 1 ≤ 4294967281) :
    ∃ va' vc' w5, (Builtin.append_ #[52, 52] 52 #[.slice va qs.length vc, .slice (some ⟨w2.heap.size, 0, none⟩) 1 1]).run Tryd.prog (w2.alloc (.cells [q.2].toArray 81)) = .ok (.slice va' (qs.length + 1) vc') w5 ∧
      PatMem w5 w.heap.size (.slice va' (qs.length + 1) vc') (qs ++ [q]) ∧ Below w.heap.size w w5 ∧ ∀ (b : Nat) (cs : Array Value) (t : TypeId) (fr : Nat × Nat), w2.heap[b]? = some (Obj.cells cs t fr) → t ≠ 81 → w5.heap[b]? = some (Obj.cells cs t fr) := by
  obtain ⟨i0, hi, hz0, hz1, hz2⟩ := info_parts comp_info
  obtain ⟨v', w5, hrun, hown5, hgrow5, hnn⟩ := append_one (t := 52) Tryd.underlying52 hi hz0 hz1 hz2 rfl (by decide) w2 (.slice va qs.length vc) qs.length (qs.map Prod.snd) hm.own
    [q.2] rfl (by intro u hu; simp at hu; subst hu; exact h1) (by unfold maxLen; omega) (by omega) hB.size
  obtain ⟨va', vc', hv'⟩ := own_form' hown5
  subst hv'
  have hW4 : Below w2.heap.size w2 (w2.alloc (.cells [q.2].toArray 81)) := (Below.refl _ _).alloc (Nat.le_refl _) _
  have hm4 := hm.below hW4
  refine ⟨va', vc', w5, hrun, ⟨by simpa using hown5, fun r hr => ?_⟩, ?_, fun b cs t fr hb ht => ?_⟩
  · rcases List.mem_append.1 hr with hr | hr
    · have := hm4.comps r hr
      split at this
      · exact this
      · exact ⟨this.1, this.2.apart hm4.own hgrow5 (by decide) (by decide)⟩
    · simp at hr; subst hr
      split at hq
      · exact hq
      · exact ⟨hq.1, (hq.2.below hW4).apart hm4.own hgrow5 (by decide) (by decide)⟩
  · have hB4 := below_then hB hW4
    exact ⟨hgrow5.os.trans hB4.os, hgrow5.tape.trans hB4.tape, hgrow5.output.trans hB4.output, Nat.le_trans hB4.size hgrow5.size, fun i hi => (hgrow5.block i (Nat.lt_of_lt_of_le hi hB4.size) (fun e => by have := (hm.own.lt _ e.symm).1; omega)).trans (hB4.block i hi)⟩
  · have hb4 := (hW4.block b (lt_of_block hb)).trans hb
    rw [hgrow5.block b (lt_of_block hb4) (fun e => by rcases own_ne hm4.own hb4 ht with h | h; (rw [h] at e; cases e); exact h e.symm)]
    exact hb4

def CompileOk (s : ByteArray) (w : World) (e : Ending) (w' : World) : Prop :=
  Below w.heap.size w w' ∧ ∃ v : Value, e = .returned (.tuple #[v, .bool (Pn.compileP s.data.toList).isSome]) ∧ (∃ a n c, v = .slice a n c) ∧
    ∀ pat, Pn.compileP s.data.toList = some pat → ∃ qs : List CompV, qs.map CompV.plain = pat ∧ PatMem w' w.heap.size v qs

theorem comps_take {l : List Pn.B} {i : Nat} (hi : i < l.length) {acc : List (Option (List Pn.Item))} (h : Pn.compsP (l.take i) = some acc) :
    (∀ c, Pn.compP l[i] = some c → Pn.compsP (l.take (i + 1)) = some (acc ++ [c])) ∧ (Pn.compP l[i] = none → Pn.compsP l = none) := by
  induction l generalizing i acc with
  | nil => simp at hi
  | cons p r ih =>
    cases i with
    | zero =>
      simp [Pn.compsP] at h; subst h
      refine ⟨fun c hc => ?_, fun hc => ?_⟩
      · simp at hc; simp [Pn.compsP, hc]
      · simp at hc; simp [Pn.compsP, hc]
    | succ i =>
      simp only [List.take_succ_cons, Pn.compsP] at h
      cases hp : Pn.compP p with
      | none => rw [hp] at h; cases h
      | some c0 =>
        rw [hp] at h
        cases hr : Pn.compsP (r.take i) with
        | none => rw [hr] at h; cases h
        | some a =>
          rw [hr] at h; simp at h; subst h
          have := ih (by simpa using hi) hr
          refine ⟨fun c hc => ?_, fun hc => ?_⟩
          · simp only [List.take_succ_cons, Pn.compsP, hp]
            rw [this.1 c (by simpa using hc)]; rfl
          · simp only [Pn.compsP, hp]
            rw [this.2 (by simpa using hc)]; rfl

/-- compile where the text is no pattern for its size, its levels or its bytes. -/
theorem compile_no (s : ByteArray) (w : World) (hs : s.size < 4294967281) (hE : Env w) (hno : (decide (s.size ≤ 512) && decide ((Pn.splitS 47 s.data.toList).length ≤ 16) && Pn.cleanP s.data.toList) = false) :
    Calls Tryd.prog 33 #[.string s] w (CompileOk s w) := by
  have hN : Pn.compileP s.data.toList = none := by unfold Pn.compileP; rw [← size_eq, hno]; rfl
  have HN := Lib.hid hN
  have HNO := Lib.hid hno
  have hlen := splitS_len 47 s.data.toList
  rw [← size_eq] at hlen
  have hS := split_any s 47 w hs hE
  have hb0 : Below w.heap.size w (w.alloc (pieces 47 s)) := (Below.refl _ w).alloc (Nat.le_refl _) _
  have hC := clean_any s (w.alloc (pieces 47 s)) hs (hE.below hb0)
  obtain ⟨n, hn⟩ : ∃ n, (Pn.splitS 47 s.data.toList).length = n := ⟨_, rfl⟩
  rw [hn] at hS HNO hlen
  generalize Pn.cleanP s.data.toList = B at hC HNO
  have hS := Lib.hid hS
  have hC := Lib.hid hC
  clear hN hno hn
  have fin : ∀ W, Below w.heap.size w W → CompileOk s w (.returned (.tuple #[.slice none 0 0, .bool false])) W := fun W hb => ⟨hb, _, by rw [HN.out]; rfl, ⟨_, _, _, rfl⟩, fun l hl => by rw [HN.out] at hl; cases hl⟩
  have FIN := Lib.hid fin
  clear fin
  by_cases h1 : s.size ≤ 512
  · by_cases h2 : n ≤ 16
    · cases B with
      | true => exfalso; have := HNO.out; rw [decide_eq_true h1, decide_eq_true h2] at this; cases this
      | false =>
        go_enter Tryd.func33, Tryd.ntmps33
        go_wp2_with (first | (go_at_call 29; refine hS.out.mono ?_; rintro e w' ⟨rfl, hw⟩; rw [hw]) | (go_at_call 57; refine hC.out.mono ?_; rintro e w' ⟨rfl, hb⟩))
        go_ret2
        exact FIN.out _ (below_then hb0 (by assumption))
    · go_enter Tryd.func33, Tryd.ntmps33
      go_wp2_with (go_at_call 29; refine hS.out.mono ?_; rintro e w' ⟨rfl, hw⟩; rw [hw])
      go_ret2
      exact FIN.out _ hb0
  · go_enter Tryd.func33, Tryd.ntmps33
    go_wp2_with (go_at_call 29; refine hS.out.mono ?_; rintro e w' ⟨rfl, hw⟩; rw [hw])
    go_ret2
    exact FIN.out _ hb0

/-- The state at the head of compile's loop. -/
def CompileRel (w : World) (s : ByteArray) (i : Nat) (out : Value) (wr : World) : Prop :=
  ∃ (va : Option Addr) (vc : Nat) (qs : List CompV), out = .slice va qs.length vc ∧ qs.length = i ∧ PatMem wr w.heap.size (.slice va qs.length vc) qs ∧ Below w.heap.size w wr ∧ wr.heap[w.heap.size]? = some (pieces 47 s) ∧
    Pn.compsP ((Pn.splitS 47 s.data.toList).take i) = some (qs.map CompV.plain)

set_option maxHeartbeats 2000000 in
set_option maxRecDepth 100000 in
theorem compile_yes (s : ByteArray) (w : World) (hs : s.size < 4294967281) (hE : Env w) (h1 : s.size ≤ 512) (h2 : (Pn.splitS 47 s.data.toList).length ≤ 16) (h3 : Pn.cleanP s.data.toList = true) :
    Calls Tryd.prog 33 #[.string s] w (CompileOk s w) := by
  have hN : Pn.compileP s.data.toList = Pn.compsP (Pn.splitS 47 s.data.toList) := by unfold Pn.compileP; rw [← size_eq, decide_eq_true h1, decide_eq_true h2, h3]; rfl
  have HN := Lib.hid hN
  have hS := split_any s 47 w hs hE
  have hb0 : Below w.heap.size w (w.alloc (pieces 47 s)) := (Below.refl _ w).alloc (Nat.le_refl _) _
  have hC := clean_any s (w.alloc (pieces 47 s)) hs (hE.below hb0)
  rw [h3] at hC
  have HP := Lib.hid (pieces_row 47 s w)
  have HLEN := Lib.hid (show ∀ p ∈ Pn.splitS 47 s.data.toList, p.length ≤ s.size by intro p hp; rw [size_eq]; exact splitS_part hp)
  obtain ⟨parts, hparts⟩ : ∃ parts, Pn.splitS 47 s.data.toList = parts := ⟨_, rfl⟩
  have HPA := Lib.hid hparts
  rw [hparts] at hS h2 HP HLEN HN
  clear hparts hN h3
  have hS := Lib.hid hS
  have hC := Lib.hid hC
  go_enter Tryd.func33, Tryd.ntmps33
  go_wp2_with (first | (go_at_call 29; refine hS.out.mono ?_; rintro e w' ⟨rfl, hw⟩; rw [hw]; clear hw) | (go_at_call 57; refine hC.out.mono ?_; rintro e w1 ⟨rfl, hb⟩))
  have hb1 : Below (w.alloc (pieces 47 s)).heap.size (w.alloc (pieces 47 s)) w1 := by assumption
  have HB1 := Lib.hid hb1
  clear hb1 hb
  go_loopg [5, 7, 8, 9, 27] parts.length (fun gg out _ _ _ iv wr => ∃ i : Nat, iv = .int .i64 i ∧ i ≤ parts.length ∧ parts.length - i ≤ gg ∧ CompileRel w s i out wr)
  case atStart =>
    exact ⟨0, rfl, Nat.zero_le _, by omega, none, 0, [], rfl, rfl, ⟨World.ownsRow_nil _ _ _ _, fun _ h => by (cases h)⟩, below_then hb0 HB1.out, by rw [HB1.out.block _ (by simp)]; exact heap_alloc_new w _, by simp [Pn.compsP]⟩
  case round =>
    obtain ⟨i, rfl, hi, hgg, va, vc, qs, rfl, hqi, hm, hB, hrow, htk⟩ := hrel
    rw [HPA.out] at htk
    have HM := Lib.hid hm
    have HB := Lib.hid hB
    have HROW := Lib.hid hrow
    have HTK := Lib.hid htk
    have HQI := Lib.hid hqi
    have hq16 : qs.length ≤ 16 := by omega
    clear hm hB hrow htk hqi
    by_cases hl : i < parts.length
    · have hlz : (i : Int) < (parts.length : Int) := by omega
      obtain ⟨p, hp⟩ : ∃ p, parts[i] = p := ⟨_, rfl⟩
      have hcell : wr.cell? ⟨w.heap.size, i, none⟩ = some (S p) := by
        rw [cell_of_block' HROW.out i, HPA.out]; simp [hl, hp]
      have hps : (⟨p.toArray⟩ : ByteArray).size < 4294967281 := by
        have := HLEN.out p (by rw [← hp]; exact List.getElem_mem hl); simp [ByteArray.size]; omega
      have hst := comps_take hl HTK.out
      rw [hp] at hst
      have HST := Lib.hid hst
      have hE1 : Env wr := hE.below HB.out
      clear hst hp
      by_cases hstar : p = [42, 42]
      · subst hstar
        have HC := Lib.hid (HST.out.1 none rfl)
        obtain ⟨va', vc', w5, hrun, hm5, hB5, hk5⟩ := pat_app HM.out HB.out (none, .slice none 0 0) rfl rfl (by omega)
        have HM5 := Lib.hid hm5
        have HB5 := Lib.hid hB5
        have HK5 := Lib.hid (hk5 _ _ _ _ HROW.out (by decide))
        have HRUN := Lib.hid hrun
        clear hrun hm5 hB5 hk5
        go_wp2_with (at_builtin; refine wpList_append_run rfl _ _ 52 rfl _ _ rfl rfl _ _ rfl HRUN.out ?_)
        go_roundg (parts.length - (i + 1))
        case measure => omega
        case rel =>
          exact ⟨i + 1, by go_num, by omega, Nat.le_refl _, va', vc', qs ++ [(none, .slice none 0 0)], by simp, by simp [HQI.out], by simpa using HM5.out, HB5.out, HK5.out, by rw [HPA.out, HC.out]; simp [CompV.plain]⟩
      · have hst3 : (p == [42, 42]) = false := beq_eq_false_iff_ne.2 hstar
        have HSTAR := Lib.hid hstar
        clear hstar
        rcases hit : Pn.itemsP p with _ | l
        · have hNO : Pn.compileP s.data.toList = none := by rw [HN.out]; exact HST.out.2 (by unfold Pn.compP; rw [if_neg HSTAR.out, hit]; rfl)
          have HNO := Lib.hid hNO
          have hI := items_any ⟨p.toArray⟩ wr hps
          have hI2 : Calls Tryd.prog 59 #[S p] wr fun e w' => (∃ a n c, e = .returned (.tuple #[.slice a n c, .bool false])) ∧ Below wr.heap.size wr w' := hI.mono (by
            rintro e w' ⟨hb, v, rfl, ⟨a, n, c, rfl⟩, _⟩
            exact ⟨⟨a, n, c, by rw [show Pn.itemsP (⟨p.toArray⟩ : ByteArray).data.toList = none from hit]; rfl⟩, hb⟩)
          have HI := Lib.hid hI2
          clear hI hI2 hNO hit
          go_wp2_with (go_at_call 59; refine HI.out.mono ?_; rintro e w' ⟨⟨a, n, c, rfl⟩, hb⟩)
          go_ret2
          exact ⟨below_then HB.out (by assumption), _, by rw [HNO.out]; rfl, ⟨_, _, _, rfl⟩, fun l hl => by rw [HNO.out] at hl; cases hl⟩
        · have HC := Lib.hid (HST.out.1 (some l) (by unfold Pn.compP; rw [if_neg HSTAR.out, hit]; rfl))
          have hI := items_any ⟨p.toArray⟩ wr hps
          have hI2 : Calls Tryd.prog 59 #[S p] wr fun e w' => ∃ a n c, e = .returned (.tuple #[.slice a n c, .bool true]) ∧ Below wr.heap.size wr w' ∧ ∃ ps : List (Pn.Item × Value), ps.map Prod.fst = l ∧ l ≠ [] ∧ ItemsMem w' w.heap.size (.slice a n c) ps := hI.mono (by
            rintro e w' ⟨hb, v, rfl, ⟨a, n, c, rfl⟩, hl⟩
            obtain ⟨h1, ps, h2, h3⟩ := hl l hit
            exact ⟨a, n, c, by rw [show Pn.itemsP (⟨p.toArray⟩ : ByteArray).data.toList = some l from hit]; rfl, hb, ps, h2, h1, h3.mono HB.out.size⟩)
          have HI := Lib.hid hI2
          clear hI hI2 hit
          go_wp2_with fail
          refine HI.out.mono ?_
          rintro e w2 ⟨a, n, c, rfl, hb2, ps, hps1, hps2, hps3⟩
          have hne : ps ≠ [] := fun e => hps2 (by rw [← hps1, e]; rfl)
          obtain ⟨va', vc', w5, hrun, hm5, hB5, hk5⟩ := pat_app (HM.out.below hb2) (below_then HB.out hb2) (some ps, .slice a n c) rfl ⟨hne, hps3⟩ (by omega)
          have HM5 := Lib.hid hm5
          have HB5 := Lib.hid hB5
          have HK5 := Lib.hid (hk5 _ _ _ _ ((hb2.block _ (lt_of_block HROW.out)).trans HROW.out) (by decide))
          have HRUN := Lib.hid hrun
          have HPS := Lib.hid hps1
          clear hrun hm5 hB5 hk5 hb2 hps1 hps2 hps3 hne
          go_wp2_with (at_builtin; refine wpList_append_run rfl _ _ 52 rfl _ _ rfl rfl _ _ rfl HRUN.out ?_)
          go_roundg (parts.length - (i + 1))
          case measure => omega
          case rel =>
            exact ⟨i + 1, by go_num, by omega, Nat.le_refl _, va', vc', qs ++ [(some ps, .slice a n c)], by simp, by simp [HQI.out], by simpa using HM5.out, HB5.out, HK5.out, by rw [HPA.out, HC.out]; simp [CompV.plain, HPS.out]⟩
    · have hlz : ¬ (i : Int) < (parts.length : Int) := by omega
      have hall : Pn.compileP s.data.toList = some (qs.map CompV.plain) := by
        rw [HN.out, ← HTK.out, List.take_of_length_le (by omega)]
      have HALL := Lib.hid hall
      clear hall
      go_wp2_with fail
      go_ret2
      exact ⟨HB.out, _, by rw [HALL.out]; rfl, ⟨_, _, _, rfl⟩, fun pat hpat => by rw [HALL.out] at hpat; cases hpat; exact ⟨qs, rfl, HM.out⟩⟩

/-- compile. -/
theorem compile_any (s : ByteArray) (w : World) (hs : s.size < 4294967281) (hE : Env w) : Calls Tryd.prog 33 #[.string s] w (CompileOk s w) := by
  cases h : (decide (s.size ≤ 512) && decide ((Pn.splitS 47 s.data.toList).length ≤ 16) && Pn.cleanP s.data.toList) with
  | false => exact compile_no s w hs hE h
  | true =>
    simp only [Bool.and_eq_true, decide_eq_true_eq] at h
    exact compile_yes s w hs hE h.1.1 h.1.2 h.2

end Go.Proofs.YtdnbmkfmckppaaaDoor
