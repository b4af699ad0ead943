/-
  The walks of (*Tree).Clone, maps.EqualFunc over entries, (*Tree).Equal.
-/
import Derived.Test.YtdcghpeomaailaaDoorFtAt
import Derived.Test.YtdcghpeomaailaaDoorFtPlay
import Derived.Test.YtdcghpeomaailaaDoorFtSame
import Derived.Test.YtdcghpeomaailaaDoorQuieter
import Derived.Test.YtdcghpeomaailaaDoorFtWalk
namespace Go.Proofs.YtdcghpeomaailaaDoor
open Go.RowKit Go.Lib Ft

/-- A box for an entry. -/
abbrev boxC (x : Ent) (va : Option Addr) (vc : Nat) : Obj := .cells #[S x.path, .int .i64 x.kind, .int .i64 x.mode, .int .i64 x.time, .slice va x.data.length vc, S x.link] 25
theorem box_below3 (w : World) (x : Ent) (va : Option Addr) (vc : Nat) : Below w.heap.size w (w.alloc (boxC x va vc)) := (Below.refl _ _).alloc (Nat.le_refl _) _

def CloneRel (t : List Ent) (mb r tb2 mb2 : Nat) (es : List (Value × Value)) (w : World) (gg : Nat) (wr : World) : Prop :=
  ∃ (done : List (Value × Value)) (t2 : List Ent), RangeAt Tryd.prog 9 wr mb r es done ∧ es.length - done.length ≤ gg ∧ TreeMem wr tb2 mb2 t2 ∧ (∀ e, e ∈ t2 ↔ e ∈ t ∧ ∃ v, (S e.path, v) ∈ done) ∧ Below w.heap.size w wr

theorem clone_more {t t2 : List Ent} {done : List (Value × Value)} {e : Ent} {v : Value} (hs : SortedT t) (hs2 : SortedT t2) (he : e ∈ t) (h : ∀ x, x ∈ t2 ↔ x ∈ t ∧ ∃ v, (S x.path, v) ∈ done) :
    ∀ x, x ∈ insE e t2 ↔ x ∈ t ∧ ∃ u, (S x.path, u) ∈ done ++ [(S e.path, v)] := fun x => by
  rw [mem_insE hs2, h x]
  constructor
  · rintro (rfl | ⟨⟨h1, u, h2⟩, _⟩)
    · exact ⟨he, v, by simp⟩
    · exact ⟨h1, u, List.mem_append_left _ h2⟩
  · rintro ⟨h1, u, h2⟩
    by_cases hp : x.path = e.path
    · exact .inl (hs.one h1 he hp)
    · rcases List.mem_append.1 h2 with h2 | h2
      · exact .inr ⟨⟨h1, u, h2⟩, hp⟩
      · simp only [List.mem_singleton, Prod.mk.injEq] at h2
        exact absurd (S_inj h2.1) hp

set_option maxHeartbeats 4000000 in
set_option maxRecDepth 100000 in
theorem clone_tree (t : List Ent) (tb mb : Nat) (w : World) (hT : TreeMem w tb mb t) :
    Calls Tryd.prog 29 #[.pointer (some ⟨tb, 0, none⟩)] w (PlayOk t w) := by
  have HN := Lib.hid (new_any w)
  have HT := Lib.hid hT
  have hmw := hT.mb_lt
  obtain ⟨es, hm1, hm2, hm3⟩ := hT.map
  have HM1 := Lib.hid hm1
  have HM2 := Lib.hid hm2
  have HM3 := Lib.hid hm3
  have HGOOD := Lib.hid hT.good
  have HFEW := Lib.hid hT.few
  clear hT hm1 hm2 hm3
  go_enter Tryd.func29, Tryd.ntmps29
  go_wp2_with fail
  refine HN.out.mono ?_
  rintro e' w1 ⟨tb2, mb2, rfl, hT2, hb1, h1, h2⟩
  have ctA := (HT.out.below hb1).cell
  obtain ⟨w2, hrng, hra, hgr, hsz⟩ := (HM1.out.below hb1).range Tryd.underlying67
  have hb12 := grown_none hgr (Nat.le_refl _)
  have HB2 := Lib.hid (below_then hb1 hb12)
  have HRA := Lib.hid hra
  have HT2 := Lib.hid (hT2.below hb12)
  have hm2lt := hT2.mb_lt
  have hw1 := hb1.size
  clear hra hgr hb1 hb12 hT2 hsz
  go_wp2_with fail
  go_loopg [4, 5] es.length (fun gg _ _ wr => CloneRel t mb w1.heap.size tb2 mb2 es w gg wr)
  case atStart => exact ⟨[], [], HRA.out, by simp, HT2.out, by simp, HB2.out⟩
  case round =>
    obtain ⟨done, t2, hra, hgg, hT, hmem, hb⟩ := hrel
    rcases hra.next 0 with ⟨hall, hnx⟩ | ⟨⟨k0, v0⟩, hpe, hpn, w3, hnx, hra3, hg3, hsz3, hent⟩
    · have heq : t2 = t := sorted_ext hT.sorted HT.out.sorted fun x => by
        rw [hmem x]
        exact ⟨fun h => h.1, fun h => by
          obtain ⟨v, hv⟩ := HM3.out x h
          exact ⟨h, v, hall _ hv⟩⟩
      subst heq
      have HN2 := Lib.hid (show NewTree w wr tb2 mb2 t2 from ⟨hT, hb, h1, h2⟩)
      clear hall hra hT hmem hb
      go_wp2_with fail
      go_ret
      exact ⟨tb2, mb2, rfl, HN2.out⟩
    · obtain ⟨e, he, hk, ⟨va, vc, hv, hvc, hby⟩⟩ := HM2.out _ hpe
      simp only at hk hv
      subst hk hv
      have hdl : (done ++ [(S e.path, entV e va vc)]).length = done.length + 1 := by simp
      have hlen := nodup_len hra3.once hra3.come
      rw [hdl] at hlen
      have hevd := valid_data_len (HGOOD.out e he)
      have hb3 : Below w.heap.size w w3 := hb.grown hg3 hb.size (fun k hk => by cases hk; exact hw1)
      have hT3 : TreeMem w3 tb2 mb2 t2 := hT.kept hg3 (by
        rintro r e; cases e
        obtain ⟨o, ho1, ho2⟩ := hra.iter
        refine ⟨noCells_of ho1 ?_, by omega⟩
        cases o <;> first | rfl | exact absurd rfl (ho2 _ _ _))
      have hmem2 := clone_more (v := entV e va vc) HT.out.sorted hT.sorted he hmem
      have hin : (insE e t2).length ≤ 4096 := Nat.le_trans (nodup_len (sorted_nodup (insE_sorted hT.sorted)) fun x hx => ((hmem2 x).1 hx).1) HFEW.out
      have hbx := box_below3 w3 e va vc
      have hbd : Below w3.heap.size w3 (w3.alloc (boxC e va vc)).drew := hbx.drew
      have HRA4 := Lib.hid (hra3.below hbd)
      have HT4 := Lib.hid (hT3.below hbd)
      have HB4 := Lib.hid (below_then hb3 hbd)
      have HY4 := Lib.hid (hby.below (below_then hb3 hbd))
      have hq := heap_alloc_new w3 (boxC e va vc)
      have a0 := cell_of_block' hq 0
      have a1 := cell_of_block' hq 1
      have a2 := cell_of_block' hq 2
      have a3 := cell_of_block' hq 3
      have a4 := cell_of_block' hq 4
      have a5 := cell_of_block' hq 5
      simp at a0 a1 a2 a3 a4 a5
      have ct3 := (hT3.below hbx).cell
      have ct4 := HT4.out.cell
      have HMEM := Lib.hid hmem2
      have HVV := Lib.hid (HGOOD.out e he)
      have HCOP := Lib.hid fun W (h : BytesAt W va e.data) => copied_any e va vc W h (by omega)
      clear hmem hmem2 hT hT3 hra hra3 hb hb3 hg3 hby hbx hq hpe hpn he
      go_wp2_with fail
      go_region_with (go_at_call 35; refine (HCOP.out _ HY4.out).mono ?_; rintro e' w5 ⟨va', rfl, hby5, hge5, hb5⟩; have hT5 := HT4.out.below hb5; have ct6 := hT5.cell; have hra5 := HRA4.out.below hb5; have HB5 := below_then HB4.out hb5; obtain ⟨w6, hrun6, hT6, hg6⟩ := hT5.store (e := e) (v := entV e va' e.data.length) ⟨va', e.data.length, rfl, Nat.le_refl _, hby5⟩ HVV.out hin; have hra6 := hra5.kept hg6 (fun e => by cases e; omega) (fun e => by cases e; omega); have hb6 := HB5.grown hg6 HB5.size (fun k hk => by cases hk; exact h2); clear hby5 hge5 hb5 hg6 hra5 hT5 HB5)
      all_goals go_wp2_with fail
      all_goals go_roundg (es.length - (done.length + 1))
      all_goals first
        | omega
        | exact ⟨done ++ [(S e.path, entV e va vc)], insE e t2, by assumption, by rw [hdl]; exact Nat.le_refl _, by assumption, HMEM.out, by assumption⟩

end Go.Proofs.YtdcghpeomaailaaDoor
