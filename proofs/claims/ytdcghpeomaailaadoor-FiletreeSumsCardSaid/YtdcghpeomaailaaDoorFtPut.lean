/-
  The walk of (*Tree).Put.
-/
import Derived.Test.YtdcghpeomaailaaDoorFtFuncs2
import Derived.Test.YtdcghpeomaailaaDoorFt2
namespace Go.Proofs.YtdcghpeomaailaaDoor
open Go.RowKit Go.Lib Ft

theorem parent_of {p : Pn.B} (h : Pn.validP p = true) : (if Pn.validP p then Pn.parentP p else []) = Pn.parentP p := by rw [if_pos h]

theorem valid_path {e : Ent} (h : e.valid = true) : Pn.validP e.path = true := by
  unfold Ent.valid at h
  simp only [Bool.and_eq_true] at h
  exact h.1.1.1.1

theorem parentP_le (p : Pn.B) : (Pn.parentP p).length ≤ p.length := by
  rcases Pn.last_slash ⟨p.toArray⟩ with ⟨_, _, h⟩ | ⟨i, hi, _, _, _, h⟩
  · have h' : Pn.parentP p = [] := h
    rw [h']; simp
  · have h' : Pn.parentP p = p.take i := h
    rw [h', List.length_take]; omega

/-- 't.entries[p]', in every world that has grown out of this one. -/
theorem TreeMem.lookB {w : World} {tb mb : Nat} {t : List Ent} (h : TreeMem w tb mb t) (p : Pn.B) (hpl : p.length ≤ 4294967296) :
    (find t p = none ∧ ∀ W, Below w.heap.size w W → (Instr.lookup 67 (.map (some mb)) (S p) true).run Tryd.prog W = .ok (.tuple #[zeroEnt, .bool false]) W) ∨
    ∃ e v, find t p = some e ∧ e.path = p ∧ EntAt w v e ∧ ∀ W, Below w.heap.size w W → (Instr.lookup 67 (.map (some mb)) (S p) true).run Tryd.prog W = .ok (.tuple #[v, .bool true]) W := by
  obtain ⟨es, h1, h2, h3⟩ := h.map
  rcases h.look p hpl with ⟨h4, _⟩ | ⟨e, v, h4, h5, h6, _⟩
  · refine .inl ⟨h4, fun W hW => ?_⟩
    rcases (h1.below hW).look string_law Tryd.underlying67 (zero_ent W) (S_key p hpl) true with ⟨_, h8⟩ | ⟨v', h7, _⟩
    · exact h8
    · obtain ⟨x, hx, hx2, _⟩ := h2 _ h7
      exact absurd (S_inj hx2).symm (find_none h4 x hx)
  · obtain ⟨u, hu⟩ := h3 e (find_some h4).1
    rw [h5] at hu
    obtain ⟨x, hx, hx2, hx3⟩ := h2 _ hu
    have hxe : x = e := h.sorted.one hx (find_some h4).1 (by rw [h5]; exact (S_inj hx2).symm)
    subst hxe
    refine .inr ⟨x, u, h4, h5, hx3, fun W hW => ?_⟩
    rcases (h1.below hW).look string_law Tryd.underlying67 (zero_ent W) (S_key p hpl) true with ⟨h7, _⟩ | ⟨v', h7, h8⟩
    · exact absurd hu (h7 u)
    · rw [h1.one h7 hu] at h8; exact h8

theorem grown_then {w w1 w2 : World} {row : Option Nat} (h : Below w.heap.size w w1) (g : w1.grownBy w2 row) : w.grownBy w2 row :=
  ⟨g.os.trans h.os, g.tape.trans h.tape, g.output.trans h.output, Nat.le_trans h.size g.size, fun i hi hr => (g.block i (Nat.lt_of_lt_of_le hi h.size) hr).trans (h.block i hi)⟩

/-- A fresh entry's cells. -/
abbrev zeroCells : Obj := .cells #[S [], .int .i64 0, .int .i64 0, .int .i64 0, .slice none 0 0, S []] 25

/-- What Put leaves. -/
def PutOk (t : List Ent) (tb mb : Nat) (e : Ent) (w : World) (e' : Ending) (w' : World) : Prop :=
  e' = .returned (.int .i64 (put t e).2) ∧ TreeMem w' tb mb (put t e).1 ∧ w.grownBy w' (some mb)

set_option maxHeartbeats 2000000 in
set_option maxRecDepth 100000 in
theorem put_any (t : List Ent) (tb mb : Nat) (e : Ent) (va : Option Addr) (vc : Nat) (w : World) (hT : TreeMem w tb mb t) (hE : Env w) (hp : e.path.length < 4294967281) (hl : e.link.length < 4294967281) (hby : BytesAt w va e.data) :
    Calls Tryd.prog 16 #[.pointer (some ⟨tb, 0, none⟩), entV e va vc] w (PutOk t tb mb e w) := by
  have hbA : Below w.heap.size w (w.alloc (.cells #[S e.path, .int .i64 e.kind, .int .i64 e.mode, .int .i64 e.time, .slice va e.data.length vc, S e.link] 25)) := (Below.refl _ w).alloc (Nat.le_refl _) _
  have P0 := Lib.hid (heap_alloc_new w (.cells #[S e.path, .int .i64 e.kind, .int .i64 e.mode, .int .i64 e.time, .slice va e.data.length vc, S e.link] 25))
  have HE := Lib.hid hE
  have HT := Lib.hid hT
  have HBY := Lib.hid hby
  have HV := Lib.hid (validEnt_any e va vc _ (hE.below hbA) hp hl)
  have HBA := Lib.hid hbA
  have hszA : (w.alloc (.cells #[S e.path, .int .i64 e.kind, .int .i64 e.mode, .int .i64 e.time, .slice va e.data.length vc, S e.link] 25)).heap.size = w.heap.size + 1 := by simp
  have HSA := Lib.hid hszA
  clear hbA hszA hE hT hby
  cases hv : e.valid with
  | false =>
    rw [hv] at HV
    have hr : put t e = (t, 1) := by unfold put; rw [if_pos hv]
    have HR := Lib.hid hr
    clear hr hv
    go_enter Tryd.func16, Tryd.ntmps16
    go_wp2_with fail
    refine HV.out.mono ?_
    rintro e' w1 ⟨rfl, hb⟩
    have HB := Lib.hid (below_then HBA.out hb)
    clear hb
    go_wp2_with fail
    go_ret
    exact ⟨by rw [HR.out]; rfl, by rw [HR.out]; exact HT.out.below HB.out, grown_below HB.out _⟩
  | true =>
    rw [hv] at HV
    have hvp := valid_path hv
    have hdl := valid_data_len hv
    have hpl := valid_path_len hv
    have hpp := parentP_le e.path
    have HP := Lib.hid fun w (h : Env w) => parentP_any e.path w h hp
    simp only [hvp, ↓reduceIte] at HP
    have HBE := Lib.hid fun w (h : TreeMem w tb mb t) => below_any t tb mb (Pn.parentP e.path) w h (by omega)
    by_cases hbz : belowE t (Pn.parentP e.path) = 0
    · rw [hbz] at HBE
      cases hf : find t e.path with
      | none =>
        by_cases hlen : t.length = 4096
        · have hr : put t e = (t, 7) := by
            unfold put; rw [if_neg (by rw [hv]; simp), if_neg (by rw [hbz]; simp), hf]; simp only; rw [if_pos hlen]
          have hlq : ((t.length : Int) == 4096) = true := by rw [beq_iff_eq]; omega
          have HR := Lib.hid hr
          have HF := Lib.hid hf
          clear hr hv hvp hbz hf
          go_enter Tryd.func16, Tryd.ntmps16
          go_wp2_with fail
          refine HV.out.mono ?_
          rintro e' w1 ⟨rfl, hb⟩
          have HQ1 := Lib.hid ((hb.block w.heap.size (by rw [HSA.out]; omega)).trans P0.out)
          have c0 := cell_of_block' HQ1.out 0
          simp at c0
          have HB := Lib.hid (below_then HBA.out hb)
          have hs1 : w.heap.size < w1.heap.size := Nat.lt_of_lt_of_le (by rw [HSA.out]; omega) hb.size
          clear hb
          go_wp2_with fail
          refine (HP.out _ (HE.out.below HB.out)).mono ?_
          rintro e' w2 ⟨rfl, hb⟩
          have HQ2 := Lib.hid ((hb.block w.heap.size hs1).trans HQ1.out)
          have HB2 := Lib.hid (below_then HB.out hb)
          have hs2 := Nat.lt_of_lt_of_le hs1 hb.size
          clear hb c0
          go_wp2_with fail
          refine (HBE.out _ (HT.out.below HB2.out)).mono ?_
          rintro e' w3 ⟨rfl, hb⟩
          have HQ3 := Lib.hid ((hb.block w.heap.size hs2).trans HQ2.out)
          have HB3 := Lib.hid (below_then HB2.out hb)
          have HT3 := Lib.hid (HT.out.below HB3.out)
          have hs3 := Nat.lt_of_lt_of_le hs2 hb.size
          clear hb hs1 hs2 HQ1 HQ2
          have c0 := cell_of_block' HQ3.out 0
          have c1 := cell_of_block' HQ3.out 1
          have c2 := cell_of_block' HQ3.out 2
          have c3 := cell_of_block' HQ3.out 3
          have c4 := cell_of_block' HQ3.out 4
          have c5 := cell_of_block' HQ3.out 5
          simp at c0 c1 c2 c3 c4 c5
          have ct := HT3.out.cell
          have hZ : Below w3.heap.size w3 (w3.alloc zeroCells) := (Below.refl _ _).alloc (Nat.le_refl _) _
          have hD1 : Below w3.heap.size w3 w3.drew := (Below.refl _ _).drew
          have hD2 : Below w3.heap.size w3 (w3.alloc zeroCells).drew := hZ.drew
          have ct2 := (HT3.out.below hZ).cell
          have c02 := (hZ.cell (p := ⟨w.heap.size, 0, none⟩) hs3).trans c0
          rcases HT3.out.lookB e.path (by omega) with ⟨_, h3⟩ | ⟨x, v, h1, _⟩
          rotate_left
          · rw [HF.out] at h1; cases h1
          have hlk1 := h3 _ hD1
          have hlk2 := h3 _ hD2
          clear h3 hZ hD1 hD2
          go_wp2_with fail
          go_region
          all_goals have hbX := ((Below.refl w3.heap.size w3).alloc (Nat.le_refl _) zeroCells).drew
          all_goals have HBX := Lib.hid hbX
          all_goals have HT4 := Lib.hid (HT3.out.below hbX)
          all_goals have ct4 := HT4.out.cell
          all_goals have ln4 := HT4.out.len 3
          all_goals have HQ4 := Lib.hid ((hbX.block w.heap.size hs3).trans HQ3.out)
          all_goals have hs4 := Nat.lt_of_lt_of_le hs3 hbX.size
          all_goals have HY4 := Lib.hid (HBY.out.below (below_then HB3.out hbX))
          all_goals have HB4 := Lib.hid (below_then HB3.out hbX)
          all_goals clear hbX
          all_goals generalize (w3.alloc zeroCells).drew = W4 at *
          all_goals have a0 := cell_of_block' HQ4.out 0
          all_goals have a1 := cell_of_block' HQ4.out 1
          all_goals have a2 := cell_of_block' HQ4.out 2
          all_goals have a3 := cell_of_block' HQ4.out 3
          all_goals have a4 := cell_of_block' HQ4.out 4
          all_goals have a5 := cell_of_block' HQ4.out 5
          all_goals simp at a0 a1 a2 a3 a4 a5
          all_goals clear c0 c1 c2 c3 c4 c5 ct ct2 c02 hlk1 hlk2
          all_goals go_wp2_with fail
          all_goals go_ret
          all_goals exact ⟨by rw [HR.out]; rfl, by rw [HR.out]; exact HT4.out, grown_below HB4.out _⟩
        · have hr : put t e = (insE e t, 0) := by
            unfold put; rw [if_neg (by rw [hv]; simp), if_neg (by rw [hbz]; simp), hf]; simp only; rw [if_neg hlen]
          have hlq : ((t.length : Int) == 4096) = false := by rw [beq_eq_false_iff_ne]; omega
          have hin : (insE e t).length ≤ 4096 := by
            have := HT.out.few
            rw [insE_len HT.out.sorted, if_pos hf]; omega
          have HR := Lib.hid hr
          have HF := Lib.hid hf
          have HVV := Lib.hid hv
          clear hr hv hvp hbz hf
          go_enter Tryd.func16, Tryd.ntmps16
          go_wp2_with fail
          refine HV.out.mono ?_
          rintro e' w1 ⟨rfl, hb⟩
          have HQ1 := Lib.hid ((hb.block w.heap.size (by rw [HSA.out]; omega)).trans P0.out)
          have c0 := cell_of_block' HQ1.out 0
          simp at c0
          have HB := Lib.hid (below_then HBA.out hb)
          have hs1 : w.heap.size < w1.heap.size := Nat.lt_of_lt_of_le (by rw [HSA.out]; omega) hb.size
          clear hb
          go_wp2_with fail
          refine (HP.out _ (HE.out.below HB.out)).mono ?_
          rintro e' w2 ⟨rfl, hb⟩
          have HQ2 := Lib.hid ((hb.block w.heap.size hs1).trans HQ1.out)
          have HB2 := Lib.hid (below_then HB.out hb)
          have hs2 := Nat.lt_of_lt_of_le hs1 hb.size
          clear hb c0
          go_wp2_with fail
          refine (HBE.out _ (HT.out.below HB2.out)).mono ?_
          rintro e' w3 ⟨rfl, hb⟩
          have HQ3 := Lib.hid ((hb.block w.heap.size hs2).trans HQ2.out)
          have HB3 := Lib.hid (below_then HB2.out hb)
          have HT3 := Lib.hid (HT.out.below HB3.out)
          have hs3 := Nat.lt_of_lt_of_le hs2 hb.size
          clear hb hs1 hs2 HQ1 HQ2
          have c0 := cell_of_block' HQ3.out 0
          have c1 := cell_of_block' HQ3.out 1
          have c2 := cell_of_block' HQ3.out 2
          have c3 := cell_of_block' HQ3.out 3
          have c4 := cell_of_block' HQ3.out 4
          have c5 := cell_of_block' HQ3.out 5
          simp at c0 c1 c2 c3 c4 c5
          have ct := HT3.out.cell
          have hZ : Below w3.heap.size w3 (w3.alloc zeroCells) := (Below.refl _ _).alloc (Nat.le_refl _) _
          have hD1 : Below w3.heap.size w3 w3.drew := (Below.refl _ _).drew
          have hD2 : Below w3.heap.size w3 (w3.alloc zeroCells).drew := hZ.drew
          have ct2 := (HT3.out.below hZ).cell
          have c02 := (hZ.cell (p := ⟨w.heap.size, 0, none⟩) hs3).trans c0
          rcases HT3.out.lookB e.path (by omega) with ⟨_, h3⟩ | ⟨x, v, h1, _⟩
          rotate_left
          · rw [HF.out] at h1; cases h1
          have hlk1 := h3 _ hD1
          have hlk2 := h3 _ hD2
          clear h3 hZ hD1 hD2
          go_wp2_with fail
          go_region
          all_goals have hbX := ((Below.refl w3.heap.size w3).alloc (Nat.le_refl _) zeroCells).drew
          all_goals have HBX := Lib.hid hbX
          all_goals have HT4 := Lib.hid (HT3.out.below hbX)
          all_goals have ct4 := HT4.out.cell
          all_goals have ln4 := HT4.out.len 3
          all_goals have HQ4 := Lib.hid ((hbX.block w.heap.size hs3).trans HQ3.out)
          all_goals have hs4 := Nat.lt_of_lt_of_le hs3 hbX.size
          all_goals have HY4 := Lib.hid (HBY.out.below (below_then HB3.out hbX))
          all_goals have HB4 := Lib.hid (below_then HB3.out hbX)
          all_goals clear hbX
          all_goals generalize (w3.alloc zeroCells).drew = W4 at *
          all_goals have a0 := cell_of_block' HQ4.out 0
          all_goals have a1 := cell_of_block' HQ4.out 1
          all_goals have a2 := cell_of_block' HQ4.out 2
          all_goals have a3 := cell_of_block' HQ4.out 3
          all_goals have a4 := cell_of_block' HQ4.out 4
          all_goals have a5 := cell_of_block' HQ4.out 5
          all_goals simp at a0 a1 a2 a3 a4 a5
          all_goals clear c0 c1 c2 c3 c4 c5 ct ct2 c02 hlk1 hlk2
          all_goals go_wp2_with fail
          all_goals have hD4 : Below W4.heap.size W4 W4.drew := (Below.refl _ _).drew
          all_goals have ct5 := (HT4.out.below hD4).cell
          all_goals have HCOP := Lib.hid fun W (h : BytesAt W va e.data) => copied_any e va vc W h (by omega)
          all_goals go_region_with (go_at_call 35; refine (HCOP.out _ (HY4.out.below hD4)).mono ?_; rintro e' w5 ⟨va', rfl, hby5, hge5, hb5⟩; have hb5' := hD4.trans hb5; have hT5 := HT4.out.below hb5'; have ct6 := hT5.cell; have b0 := (hb5'.cell (p := ⟨w.heap.size, 0, none⟩) hs4).trans a0; obtain ⟨w6, hrun6, hT6, hg6⟩ := hT5.store (e := e) (v := entV e va' e.data.length) ⟨va', e.data.length, rfl, Nat.le_refl _, hby5⟩ HVV.out hin; have hg7 := grown_then HB4.out (grown_then hb5' hg6); clear hby5 hge5 hb5 hb5' hg6)
          all_goals go_wp2_with fail
          all_goals go_ret
          all_goals exact ⟨by rw [HR.out]; rfl, by rw [HR.out]; assumption, by assumption⟩
      | some old =>
        by_cases hk : old.kind = e.kind
        · have hr : put t e = (insE e t, 0) := by
            unfold put; rw [if_neg (by rw [hv]; simp), if_neg (by rw [hbz]; simp), hf]; simp only; rw [if_neg (by simp [hk])]
          have hkq : (old.kind == e.kind) = true := by rw [beq_iff_eq]; exact hk
          have hin : (insE e t).length ≤ 4096 := by
            have := HT.out.few
            rw [insE_len HT.out.sorted, if_neg (by rw [hf]; simp)]; exact this
          have HR := Lib.hid hr
          have HF := Lib.hid hf
          have HVV := Lib.hid hv
          clear hr hv hvp hbz hk hf
          go_enter Tryd.func16, Tryd.ntmps16
          go_wp2_with fail
          refine HV.out.mono ?_
          rintro e' w1 ⟨rfl, hb⟩
          have HQ1 := Lib.hid ((hb.block w.heap.size (by rw [HSA.out]; omega)).trans P0.out)
          have c0 := cell_of_block' HQ1.out 0
          simp at c0
          have HB := Lib.hid (below_then HBA.out hb)
          have hs1 : w.heap.size < w1.heap.size := Nat.lt_of_lt_of_le (by rw [HSA.out]; omega) hb.size
          clear hb
          go_wp2_with fail
          refine (HP.out _ (HE.out.below HB.out)).mono ?_
          rintro e' w2 ⟨rfl, hb⟩
          have HQ2 := Lib.hid ((hb.block w.heap.size hs1).trans HQ1.out)
          have HB2 := Lib.hid (below_then HB.out hb)
          have hs2 := Nat.lt_of_lt_of_le hs1 hb.size
          clear hb c0
          go_wp2_with fail
          refine (HBE.out _ (HT.out.below HB2.out)).mono ?_
          rintro e' w3 ⟨rfl, hb⟩
          have HQ3 := Lib.hid ((hb.block w.heap.size hs2).trans HQ2.out)
          have HB3 := Lib.hid (below_then HB2.out hb)
          have HT3 := Lib.hid (HT.out.below HB3.out)
          have hs3 := Nat.lt_of_lt_of_le hs2 hb.size
          clear hb hs1 hs2 HQ1 HQ2
          have c0 := cell_of_block' HQ3.out 0
          have c1 := cell_of_block' HQ3.out 1
          have c2 := cell_of_block' HQ3.out 2
          have c3 := cell_of_block' HQ3.out 3
          have c4 := cell_of_block' HQ3.out 4
          have c5 := cell_of_block' HQ3.out 5
          simp at c0 c1 c2 c3 c4 c5
          have ct := HT3.out.cell
          have hZ : Below w3.heap.size w3 (w3.alloc zeroCells) := (Below.refl _ _).alloc (Nat.le_refl _) _
          have hD1 : Below w3.heap.size w3 w3.drew := (Below.refl _ _).drew
          have hD2 : Below w3.heap.size w3 (w3.alloc zeroCells).drew := hZ.drew
          have ct2 := (HT3.out.below hZ).cell
          have c02 := (hZ.cell (p := ⟨w.heap.size, 0, none⟩) hs3).trans c0
          rcases HT3.out.lookB e.path (by omega) with ⟨h1, _⟩ | ⟨x, v, h1, _, ⟨va2, vc2, rfl, _, _⟩, h3⟩
          · rw [HF.out] at h1; cases h1
          rw [HF.out] at h1; cases h1
          have hlk1 := h3 _ hD1
          have hlk2 := h3 _ hD2
          clear h3 hZ hD1 hD2
          go_wp2_with fail
          go_region
          all_goals have x1 : ((w3.alloc (.cells #[S e.path, .int .i64 old.kind, .int .i64 old.mode, .int .i64 old.time, .slice va2 old.data.length vc2, S old.link] 25)).drew).cell? ⟨w3.heap.size, 1, none⟩ = some (.int .i64 old.kind) := by rw [cell_of_block' (show ((w3.alloc (.cells #[S e.path, .int .i64 old.kind, .int .i64 old.mode, .int .i64 old.time, .slice va2 old.data.length vc2, S old.link] 25)).drew).heap[w3.heap.size]? = some (.cells #[S e.path, .int .i64 old.kind, .int .i64 old.mode, .int .i64 old.time, .slice va2 old.data.length vc2, S old.link] 25) from heap_alloc_new w3 _) 1]; rfl
          all_goals have hbX := ((Below.refl w3.heap.size w3).alloc (Nat.le_refl _) (.cells #[S e.path, .int .i64 old.kind, .int .i64 old.mode, .int .i64 old.time, .slice va2 old.data.length vc2, S old.link] 25)).drew
          all_goals have HBX := Lib.hid hbX
          all_goals have HT4 := Lib.hid (HT3.out.below hbX)
          all_goals have ct4 := HT4.out.cell
          all_goals have ln4 := HT4.out.len 3
          all_goals have HQ4 := Lib.hid ((hbX.block w.heap.size hs3).trans HQ3.out)
          all_goals have hs4 := Nat.lt_of_lt_of_le hs3 hbX.size
          all_goals have HY4 := Lib.hid (HBY.out.below (below_then HB3.out hbX))
          all_goals have HB4 := Lib.hid (below_then HB3.out hbX)
          all_goals clear hbX
          all_goals generalize (w3.alloc (.cells #[S e.path, .int .i64 old.kind, .int .i64 old.mode, .int .i64 old.time, .slice va2 old.data.length vc2, S old.link] 25)).drew = W4 at *
          all_goals have a0 := cell_of_block' HQ4.out 0
          all_goals have a1 := cell_of_block' HQ4.out 1
          all_goals have a2 := cell_of_block' HQ4.out 2
          all_goals have a3 := cell_of_block' HQ4.out 3
          all_goals have a4 := cell_of_block' HQ4.out 4
          all_goals have a5 := cell_of_block' HQ4.out 5
          all_goals simp at a0 a1 a2 a3 a4 a5
          all_goals clear c0 c1 c2 c3 c4 c5 ct ct2 c02 hlk1 hlk2
          all_goals go_wp2_with fail
          all_goals have hD4 : Below W4.heap.size W4 W4.drew := (Below.refl _ _).drew
          all_goals have ct5 := (HT4.out.below hD4).cell
          all_goals have HCOP := Lib.hid fun W (h : BytesAt W va e.data) => copied_any e va vc W h (by omega)
          all_goals go_region_with (go_at_call 35; refine (HCOP.out _ (HY4.out.below hD4)).mono ?_; rintro e' w5 ⟨va', rfl, hby5, hge5, hb5⟩; have hb5' := hD4.trans hb5; have hT5 := HT4.out.below hb5'; have ct6 := hT5.cell; have b0 := (hb5'.cell (p := ⟨w.heap.size, 0, none⟩) hs4).trans a0; obtain ⟨w6, hrun6, hT6, hg6⟩ := hT5.store (e := e) (v := entV e va' e.data.length) ⟨va', e.data.length, rfl, Nat.le_refl _, hby5⟩ HVV.out hin; have hg7 := grown_then HB4.out (grown_then hb5' hg6); clear hby5 hge5 hb5 hb5' hg6)
          all_goals go_wp2_with fail
          all_goals go_ret
          all_goals exact ⟨by rw [HR.out]; rfl, by rw [HR.out]; assumption, by assumption⟩
        · have hr : put t e = (t, 13) := by
            unfold put; rw [if_neg (by rw [hv]; simp), if_neg (by rw [hbz]; simp), hf]; simp only; rw [if_pos hk]
          have HR := Lib.hid hr
          have hkq : (old.kind == e.kind) = false := by rw [beq_eq_false_iff_ne]; exact hk
          have HF := Lib.hid hf
          clear hr hv hvp hbz hk hf
          go_enter Tryd.func16, Tryd.ntmps16
          go_wp2_with fail
          refine HV.out.mono ?_
          rintro e' w1 ⟨rfl, hb⟩
          have HQ1 := Lib.hid ((hb.block w.heap.size (by rw [HSA.out]; omega)).trans P0.out)
          have c0 := cell_of_block' HQ1.out 0
          simp at c0
          have HB := Lib.hid (below_then HBA.out hb)
          have hs1 : w.heap.size < w1.heap.size := Nat.lt_of_lt_of_le (by rw [HSA.out]; omega) hb.size
          clear hb
          go_wp2_with fail
          refine (HP.out _ (HE.out.below HB.out)).mono ?_
          rintro e' w2 ⟨rfl, hb⟩
          have HQ2 := Lib.hid ((hb.block w.heap.size hs1).trans HQ1.out)
          have HB2 := Lib.hid (below_then HB.out hb)
          have hs2 := Nat.lt_of_lt_of_le hs1 hb.size
          clear hb c0
          go_wp2_with fail
          refine (HBE.out _ (HT.out.below HB2.out)).mono ?_
          rintro e' w3 ⟨rfl, hb⟩
          have HQ3 := Lib.hid ((hb.block w.heap.size hs2).trans HQ2.out)
          have HB3 := Lib.hid (below_then HB2.out hb)
          have HT3 := Lib.hid (HT.out.below HB3.out)
          have hs3 := Nat.lt_of_lt_of_le hs2 hb.size
          clear hb hs1 hs2 HQ1 HQ2
          have c0 := cell_of_block' HQ3.out 0
          have c1 := cell_of_block' HQ3.out 1
          have c2 := cell_of_block' HQ3.out 2
          have c3 := cell_of_block' HQ3.out 3
          have c4 := cell_of_block' HQ3.out 4
          have c5 := cell_of_block' HQ3.out 5
          simp at c0 c1 c2 c3 c4 c5
          have ct := HT3.out.cell
          have hZ : Below w3.heap.size w3 (w3.alloc zeroCells) := (Below.refl _ _).alloc (Nat.le_refl _) _
          have hD1 : Below w3.heap.size w3 w3.drew := (Below.refl _ _).drew
          have hD2 : Below w3.heap.size w3 (w3.alloc zeroCells).drew := hZ.drew
          have ct2 := (HT3.out.below hZ).cell
          have c02 := (hZ.cell (p := ⟨w.heap.size, 0, none⟩) hs3).trans c0
          rcases HT3.out.lookB e.path (by omega) with ⟨h1, _⟩ | ⟨x, v, h1, _, ⟨va2, vc2, rfl, _, _⟩, h3⟩
          · rw [HF.out] at h1; cases h1
          rw [HF.out] at h1; cases h1
          have hlk1 := h3 _ hD1
          have hlk2 := h3 _ hD2
          clear h3 hZ hD1 hD2
          go_wp2_with fail
          go_region
          all_goals go_wp2_with fail
          all_goals go_ret
          all_goals have hbX := below_then HB3.out (((Below.refl w3.heap.size w3).alloc (Nat.le_refl _) (.cells #[S e.path, .int .i64 old.kind, .int .i64 old.mode, .int .i64 old.time, .slice va2 old.data.length vc2, S old.link] 25)).drew)
          all_goals exact ⟨by rw [HR.out]; rfl, by rw [HR.out]; exact HT.out.below hbX, grown_below hbX _⟩
    · have hr : put t e = (t, belowE t (Pn.parentP e.path)) := by unfold put; rw [if_neg (by rw [hv]; simp), if_pos hbz]
      have hq : (belowE t (Pn.parentP e.path) == 0) = false := by rw [beq_eq_false_iff_ne]; exact hbz
      have HR := Lib.hid hr
      clear hr hv hvp hbz
      generalize belowE t (Pn.parentP e.path) = x at *
      go_enter Tryd.func16, Tryd.ntmps16
      go_wp2_with fail
      refine HV.out.mono ?_
      rintro e' w1 ⟨rfl, hb⟩
      have q0 := (hb.block w.heap.size (by rw [HSA.out]; omega)).trans P0.out
      have c0 := cell_of_block' q0 0
      simp at c0
      have Q0 := Lib.hid q0
      have HB := Lib.hid (below_then HBA.out hb)
      clear hb q0
      go_wp2_with fail
      refine (HP.out _ (HE.out.below HB.out)).mono ?_
      rintro e' w2 ⟨rfl, hb⟩
      have HB2 := Lib.hid (below_then HB.out hb)
      clear hb
      go_wp2_with fail
      refine (HBE.out _ (HT.out.below HB2.out)).mono ?_
      rintro e' w3 ⟨rfl, hb⟩
      have HB3 := Lib.hid (below_then HB2.out hb)
      clear hb
      go_wp2_with fail
      go_ret
      exact ⟨by rw [HR.out]; rfl, by rw [HR.out]; exact HT.out.below HB3.out, grown_below HB3.out _⟩

end Go.Proofs.YtdcghpeomaailaaDoor
