/-
  The walk of (*Tree).movable.
-/
import Derived.Test.YtdcghpeomaailaaDoorFtPut
import Derived.Test.YtdcghpeomaailaaDoorFtEnts
namespace Go.Proofs.YtdcghpeomaailaaDoor
open Go.RowKit Go.Lib Ft

/-- 't.entries[p]' (one result), in every world that has grown out of this one. -/
theorem TreeMem.lookP {w : World} {tb mb : Nat} {t : List Ent} (h : TreeMem w tb mb t) {e : Ent} (he : e ∈ t) :
    ∃ va vc, e.data.length ≤ vc ∧ BytesAt w va e.data ∧ ∀ W, Below w.heap.size w W → (Instr.lookup 67 (.map (some mb)) (S e.path) false).run Tryd.prog W = .ok (entV e va vc) W := by
  obtain ⟨es, h1, h2, h3⟩ := h.map
  have hpl := valid_path_len (h.good e he)
  obtain ⟨u, hu⟩ := h3 e he
  obtain ⟨x, hx, hx2, hx3⟩ := h2 _ hu
  have hxe : x = e := h.sorted.one hx he (S_inj hx2).symm
  subst hxe
  obtain ⟨va, vc, hv, h4, h5⟩ := hx3
  simp only at hv
  subst hv
  refine ⟨va, vc, h4, h5, fun W hW => ?_⟩
  rcases (h1.below hW).look string_law Tryd.underlying67 (zero_ent W) (S_key x.path (by omega)) false with ⟨h7, _⟩ | ⟨v', h7, h8⟩
  · exact absurd hu (h7 _)
  · rw [h1.one h7 hu] at h8; exact h8

/-- A look-up of which only the second result is used. -/
theorem TreeMem.lookOk {w : World} {tb mb : Nat} {t : List Ent} (h : TreeMem w tb mb t) (p : Pn.B) (hpl : p.length ≤ 4294967296) :
    ∃ (x : Ent) (va : Option Addr) (vc : Nat), ∀ W, Below w.heap.size w W → (Instr.lookup 67 (.map (some mb)) (S p) true).run Tryd.prog W = .ok (.tuple #[entV x va vc, .bool (find t p).isSome]) W := by
  rcases h.lookB p hpl with ⟨h1, h2⟩ | ⟨x, v, h1, _, ⟨va, vc, rfl, _, _⟩, h3⟩
  · exact ⟨zeroE, none, 0, fun W hW => by rw [h1]; exact h2 W hW⟩
  · exact ⟨x, va, vc, fun W hW => by rw [h1]; exact h3 W hW⟩

set_option maxHeartbeats 2000000 in
set_option maxRecDepth 100000 in
theorem movable_any (t : List Ent) (tb mb : Nat) (a b : Pn.B) (w : World) (hT : TreeMem w tb mb t) (hE : Env w) (ha : a.length < 4294967281) (hbl : b.length < 4294967281) :
    Calls Tryd.prog 53 #[.pointer (some ⟨tb, 0, none⟩), S a, S b] w fun e' w' => e' = .returned (.int .i64 (movable t a b)) ∧ Below w.heap.size w w' := by
  have hc := hT.cell
  obtain ⟨x1, va1, vc1, hl1⟩ := hT.lookOk a (by omega)
  obtain ⟨x2, va2, vc2, hl2⟩ := hT.lookOk b (by omega)
  have hA1 : Below w.heap.size w (w.alloc (.cells #[S x1.path, .int .i64 x1.kind, .int .i64 x1.mode, .int .i64 x1.time, .slice va1 x1.data.length vc1, S x1.link] 25)) := (Below.refl _ _).alloc (Nat.le_refl _) _
  have hA2 : Below w.heap.size w ((w.alloc (.cells #[S x1.path, .int .i64 x1.kind, .int .i64 x1.mode, .int .i64 x1.time, .slice va1 x1.data.length vc1, S x1.link] 25)).alloc (.cells #[S x2.path, .int .i64 x2.kind, .int .i64 x2.mode, .int .i64 x2.time, .slice va2 x2.data.length vc2, S x2.link] 25)) := hA1.alloc (by simp) _
  have hk1 := hl1 w (Below.refl _ _)
  have hk2 := hl2 _ hA1
  have hc2 := (hT.below hA1).cell
  have HB := Lib.hid hA2
  have HT := Lib.hid hT
  have HE := Lib.hid hE
  have HVA := Lib.hid fun W (h : Env W) => valid_any ⟨a.toArray⟩ W ha h
  have HVB := Lib.hid fun W (h : Env W) => valid_any ⟨b.toArray⟩ W hbl h
  have HW := Lib.hid fun W (h : Env W) => within_any ⟨a.toArray⟩ ⟨b.toArray⟩ W ha hbl h
  have HPA := Lib.hid fun W (h : Env W) => parentP_any b W h hbl
  have HBE := Lib.hid fun W (h : TreeMem W tb mb t) (hl : (Pn.parentP b).length ≤ 4294967281) => below_any t tb mb (Pn.parentP b) W h hl
  rw [show (⟨a.toArray⟩ : ByteArray).data.toList = a from rfl] at HVA HW
  rw [show (⟨b.toArray⟩ : ByteArray).data.toList = b from rfl] at HVB HW
  have hpp := parentP_le b
  clear hA1 hA2 hT hE hl1 hl2
  obtain ⟨r, hr⟩ : ∃ r, movable t a b = r := ⟨_, rfl⟩
  rw [hr]
  have HR := Lib.hid hr
  unfold movable at HR
  clear hr
  obtain ⟨fa, hfa⟩ : ∃ fa, (find t a).isSome = fa := ⟨_, rfl⟩
  obtain ⟨fb, hfb⟩ : ∃ fb, (find t b).isSome = fb := ⟨_, rfl⟩
  have HFA := Lib.hid hfa
  have HFB := Lib.hid hfb
  rw [hfa] at hk1
  rw [hfb] at hk2
  clear hfa hfb
  go_enter Tryd.func53, Tryd.ntmps53
  go_wp2_with fail
  refine (HVA.out _ (HE.out.below HB.out)).mono ?_
  rintro e' w1 ⟨rfl, hb⟩
  have HB1 := Lib.hid (below_then HB.out hb)
  clear hb hk1 hk2 hc hc2
  cases hva : Pn.validP a with
  | false =>
    have HX := Lib.hid (show r = 1 by rw [← HR.out, hva]; rfl)
    go_wp2_with fail
    go_ret
    exact ⟨by rw [HX.out]; rfl, HB1.out⟩
  | true =>
    go_wp2_with fail
    refine (HVB.out _ (HE.out.below HB1.out)).mono ?_
    rintro e' w2 ⟨rfl, hb⟩
    have HB2 := Lib.hid (below_then HB1.out hb)
    clear hb
    cases hvb : Pn.validP b with
    | false =>
      have HX := Lib.hid (show r = 1 by rw [← HR.out, hvb]; rw [if_pos (.inr rfl)])
      go_wp2_with fail
      go_ret
      exact ⟨by rw [HX.out]; rfl, HB2.out⟩
    | true =>
      have HR2 := Lib.hid (show (if find t a = none then 4 else if Pn.withinP a b = true then 13 else if find t b ≠ none then 5 else belowE t (Pn.parentP b)) = r from by
        have h := HR.out
        rw [if_neg (show ¬ (Pn.validP a = false ∨ Pn.validP b = false) by rw [hva, hvb]; simp)] at h
        exact h)
      cases fa with
      | false =>
        have HX := Lib.hid (show r = 4 by rw [← HR2.out, if_pos (show find t a = none by simpa using HFA.out)])
        go_wp2_with fail
        go_ret
        exact ⟨by rw [HX.out]; rfl, HB2.out⟩
      | true =>
        have HR3 := Lib.hid (show (if Pn.withinP a b = true then 13 else if find t b ≠ none then 5 else belowE t (Pn.parentP b)) = r from by
          have h := HR2.out
          rw [if_neg (show ¬ find t a = none from fun h2 => by have := HFA.out; rw [h2] at this; cases this)] at h
          exact h)
        go_wp2_with fail
        refine (HW.out _ (HE.out.below HB2.out)).mono ?_
        rintro e' w3 ⟨rfl, hb⟩
        have HB3 := Lib.hid (below_then HB2.out hb)
        clear hb
        cases hwi : Pn.withinP a b with
        | true =>
          have HX := Lib.hid (show r = 13 by rw [← HR3.out, if_pos hwi])
          go_wp2_with fail
          go_ret
          exact ⟨by rw [HX.out]; rfl, HB3.out⟩
        | false =>
          have HR4 := Lib.hid (show (if find t b ≠ none then 5 else belowE t (Pn.parentP b)) = r from by
            have h := HR3.out
            rw [if_neg (show ¬ Pn.withinP a b = true by rw [hwi]; simp)] at h
            exact h)
          cases fb with
          | true =>
            have HX := Lib.hid (show r = 5 by rw [← HR4.out, if_pos (show find t b ≠ none from fun h => by have := HFB.out; rw [h] at this; cases this)])
            go_wp2_with fail
            go_ret
            exact ⟨by rw [HX.out]; rfl, HB3.out⟩
          | false =>
            have HX := Lib.hid (show belowE t (Pn.parentP b) = r from by
              have h := HR4.out
              rw [if_neg (show ¬ find t b ≠ none by simpa using HFB.out)] at h
              exact h)
            rw [HX.out] at HBE
            have HPB := Lib.hid (HPA.out w3 (HE.out.below HB3.out))
            simp only [hvb, ↓reduceIte] at HPB
            go_wp2_with fail
            refine HPB.out.mono ?_
            rintro e' w4 ⟨rfl, hb⟩
            have HB4 := Lib.hid (below_then HB3.out hb)
            clear hb
            go_wp2_with fail
            refine (HBE.out w4 (HT.out.below HB4.out) (by omega)).mono ?_
            rintro e' w5 ⟨rfl, hb⟩
            have HB5 := Lib.hid (below_then HB4.out hb)
            clear hb
            go_wp2_with fail
            go_ret
            exact ⟨rfl, HB5.out⟩

end Go.Proofs.YtdcghpeomaailaaDoor
