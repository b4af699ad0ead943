/-
  The walk of (*Tree).at: the paths at and below a path, in order.
-/
import Derived.Test.YtdcghpeomaailaaDoorFtPut
import Derived.Test.YtdcghpeomaailaaDoorSortP
import Derived.Shelf.SlSortCmp.NoneTotal
namespace Go.Proofs.YtdcghpeomaailaaDoor
open Go.RowKit Go.Lib Ft

/-- Strings in memory that a call made. -/
abbrev StrsMem (w : World) (base : Nat) (v : Value) (l : List Pn.B) : Prop := w.ownsRow base 9 1 v l.length (l.map S)

theorem strs_info : (Tryd.prog.info? 9).map (fun i => (i.zero, i.size, i.bytes)) = some (some (.string ⟨#[]⟩), 1, 16) := by kernel_rfl

/-- The append of one string. -/
theorem strs_app {w w2 : World} {base : Nat} {va : Option Addr} {vc : Nat} {l : List Pn.B} (hm : StrsMem w2 base (.slice va l.length vc) l) (hB : Below w.heap.size w w2) (hb : w.heap.size ≤ base) (hb2 : base ≤ w2.heap.size) (x : Pn.B) (hl : l.length + 1 ≤ 4294967290) :
    ∃ va' vc' w5, (Builtin.append_ #[75, 75] 75 #[.slice va l.length vc, .slice (some ⟨w2.heap.size, 0, none⟩) 1 1]).run Tryd.prog (w2.alloc (.cells [S x].toArray 9)) = .ok (.slice va' (l.length + 1) vc') w5 ∧
      StrsMem w5 base (.slice va' (l.length + 1) vc') (l ++ [x]) ∧ Below w.heap.size w w5 ∧ (w2.alloc (.cells [S x].toArray 9)).grownBy w5 (Value.slice va l.length vc).ownBlock := by
  obtain ⟨i0, hi, hz0, hz1, hz2⟩ := info_parts strs_info
  obtain ⟨v', w5, hrun, hown5, hgrow5, hnn⟩ := append_one (t := 75) Tryd.underlying75 hi hz0 hz1 hz2 rfl (by decide) w2 (.slice va l.length vc) l.length (l.map S) hm
    [S x] rfl (by intro u hu; simp at hu; subst hu; rfl) (by unfold maxLen; omega) (by omega) (by omega)
  obtain ⟨va', vc', hv'⟩ := own_form' hown5
  subst hv'
  have hW4 : Below w2.heap.size w2 (w2.alloc (.cells [S x].toArray 9)) := (Below.refl _ _).alloc (Nat.le_refl _) _
  refine ⟨va', vc', w5, hrun, ?_, ?_, hgrow5⟩
  · unfold StrsMem
    rw [List.map_append, List.length_append]
    exact hown5
  · have hB4 := below_then hB hW4
    exact ⟨hgrow5.os.trans hB4.os, hgrow5.tape.trans hB4.tape, hgrow5.output.trans hB4.output, Nat.le_trans hB4.size hgrow5.size, fun i hi => (hgrow5.block i (Nat.lt_of_lt_of_le hi hB4.size) (fun e => by have := (hm.lt _ e.symm).1; omega)).trans (hB4.block i hi)⟩

theorem own_not_iter {w : World} {base : Nat} {e : TypeId} {size : Nat} {v : Value} {n : Nat} {xs : List Value} (h : w.ownsRow base e size v n xs) {b : Nat} {o : Obj} (hb : w.heap[b]? = some o) (ho : ∀ cs t fr, o ≠ .cells cs t fr) : ∀ r, v.ownBlock = some r → r ≠ b := by
  rintro r hr rfl
  rcases h.2 with ⟨rfl, _⟩ | ⟨g, cap, cur, rfl, _, hg, _⟩
  · cases hr
  · simp [Value.ownBlock] at hr
    subst hr
    rw [hg] at hb
    cases hb
    exact ho _ _ _ rfl

theorem grown_none {B : Nat} {w w' : World} (h : w.grownBy w' none) (hB : B ≤ w.heap.size) : Below B w w' :=
  ⟨h.os, h.tape, h.output, h.size, fun k hk => h.block k (Nat.lt_of_lt_of_le hk hB) (by simp)⟩

theorem nodup_len {α : Type} : ∀ {l m : List α}, l.Nodup → (∀ x ∈ l, x ∈ m) → l.length ≤ m.length
  | [], _, _, _ => Nat.zero_le _
  | a :: l, m, hn, hs => by
    obtain ⟨h1, h2⟩ := List.nodup_cons.1 hn
    obtain ⟨p, q, rfl⟩ := List.append_of_mem (hs a (by simp))
    have := nodup_len (m := p ++ q) h2 (fun x hx => by
      have h3 := hs x (by simp [hx])
      rw [List.mem_append, List.mem_cons] at h3
      rw [List.mem_append]
      rcases h3 with h3 | rfl | h3
      · exact .inl h3
      · exact absurd hx h1
      · exact .inr h3)
    simp at this ⊢; omega

theorem RangeAt.iter {w : World} {b r : Nat} {es done : List (Value × Value)} {P : Program} {k : TypeId} (h : RangeAt P k w b r es done) : ∃ o, w.heap[r]? = some o ∧ ∀ cs t fr, o ≠ .cells cs t fr := by
  obtain ⟨ms, clock, since, seen, c0, _, _, _, hr, _⟩ := h.way
  exact ⟨_, hr, by intro cs t fr e; cases e⟩

theorem RangeAt.mapObj {w : World} {b r : Nat} {es done : List (Value × Value)} {P : Program} {k : TypeId} (h : RangeAt P k w b r es done) : ∃ o, w.heap[b]? = some o ∧ ∀ cs t fr, o ≠ .cells cs t fr := by
  obtain ⟨ms, clock, since, seen, c0, hb, _⟩ := h.way
  exact ⟨_, hb, by intro cs t fr e; cases e⟩

/-- Sorting the paths that were found. -/
theorem sort_own {t : List Ent} {path : Pn.B} {w W : World} {va : Option Addr} {vc : Nat} {l : List Pn.B} (hs : SortedT t) (hnd : l.Nodup) (hmem : ∀ q, q ∈ l ↔ q ∈ (under t path).map (fun e => e.path)) (hm : StrsMem W w.heap.size (.slice va l.length vc) l) (hB : Below w.heap.size w W) (hl : l.length ≤ 4096) (hq : ∀ q ∈ l, q.length ≤ 1024) :
    Calls Tryd.prog 62 #[.slice va l.length vc, .func (.func 63) #[] #[]] W fun e w' =>
      e = .returned (.tuple #[]) ∧ (under t path).length = l.length ∧ ((under t path) = [] ∨ ∃ g, va = some ⟨g, 0, none⟩ ∧ w.heap.size ≤ g ∧ g < w'.heap.size ∧ RowAt w' g 0 ((under t path).map fun e => S e.path)) ∧ Below w.heap.size w w' := by
  have hp := paths_sorted (under_sorted hs path)
  have hlen : ∀ m : List Pn.B, SortedB m → (∀ x, x ∈ m ↔ x ∈ l) → m = (under t path).map fun e => e.path := fun m h1 h2 => sortedB_ext h1 hp fun x => by rw [h2 x, hmem x]
  by_cases hl0 : l = []
  · subst hl0
    have hu : under t path = [] := by
      have := hlen [] List.Pairwise.nil (fun x => Iff.rfl)
      exact List.map_eq_nil_iff.1 this.symm
    refine (Go.Proofs.AnyF.slices_SortFunc_none { Tryd.sortS with } va vc _ W).mono ?_
    rintro e w' ⟨rfl, rfl⟩
    exact ⟨rfl, by rw [hu]; rfl, .inl hu, hB⟩
  · have hl1 : l.length ≠ 0 := fun e => hl0 (List.length_eq_zero_iff.1 e)
    obtain ⟨hn, ⟨hv, h0⟩ | ⟨g, cap, cur, hv, hge, hg, hcap, hmax, hcs, htk⟩⟩ := hm
    · exact absurd h0 hl1
    · injection hv with hva hvl hvc
      subst hva hvc
      have hd : ∃ d : Array Pth, d.toList.map (fun x => x.1) = l := by
        refine ⟨(l.attach.map fun q => (⟨q.1, hq q.1 q.2⟩ : Pth)).toArray, ?_⟩
        simp
      obtain ⟨d, hd⟩ := hd
      have hds : d.size = l.length := by rw [← hd]; simp
      have hmS : ∀ d' : Array Pth, d'.toList.map (fun x => S x.1) = (d'.toList.map (fun x => x.1)).map S := fun d' => by simp
      have hrow : RowAt W g 0 (d.toList.map fun x => S x.1) := by
        rw [hmS, hd, ← htk]
        intro i hi
        rw [List.length_take] at hi
        have hic : i < cur.toList.length := by omega
        rw [Nat.zero_add, List.getElem_take]
        simp only [World.cell?, hg]
        rw [Array.getElem?_eq_getElem (by simpa using hic)]
        simp
      have hS := sort_paths d g vc cur W (by omega) hg hrow
      rw [hds] at hS
      refine hS.mono ?_
      rintro e w' ⟨rfl, d', hperm, hsz, hpw, hrow', hgr⟩
      have hpm := hperm.map (fun x : Pth => x.1)
      rw [hd] at hpm
      have hsrt : SortedB (d'.toList.map fun x => x.1) := sortedB_of (List.pairwise_map.2 hpw) (hpm.nodup_iff.2 hnd)
      have heq := hlen _ hsrt fun x => hpm.mem_iff
      have hll : (under t path).length = l.length := by
        have h1 := congrArg List.length heq
        have h2 := hpm.length_eq
        rw [List.length_map] at h1
        simp at h1 h2
        omega
      refine ⟨rfl, hll, .inr ⟨g, rfl, hge, ?_, ?_⟩, hB.grown hgr hB.size (fun k hk => by cases hk; exact hge)⟩
      · exact Nat.lt_of_lt_of_le (Array.getElem?_eq_some_iff.1 hg).1 hgr.size
      · have : ((under t path).map fun e => S e.path) = d'.toList.map fun x => S x.1 := by
          rw [hmS, heq]
          simp [List.map_map, Function.comp_def]
        rw [this]; exact hrow'

/-- The loop of at. -/
def AtRel (mb r : Nat) (es : List (Value × Value)) (path : Pn.B) (w : World) (out : Value) (gg : Nat) (wr : World) : Prop :=
  ∃ (done : List (Value × Value)) (l : List Pn.B) (va : Option Addr) (vc : Nat), out = .slice va l.length vc ∧ RangeAt Tryd.prog 9 wr mb r es done ∧ es.length - done.length ≤ gg ∧ StrsMem wr w.heap.size (.slice va l.length vc) l ∧
    (∀ q, q ∈ l ↔ ∃ p ∈ done, p.1 = S q ∧ Pn.withinP path q = true) ∧ l.Nodup ∧ l.length ≤ done.length ∧ Below w.heap.size w wr

def AtOk (t : List Ent) (path : Pn.B) (w : World) (e' : Ending) (w' : World) : Prop :=
  ∃ va vc, e' = .returned (.slice va (under t path).length vc) ∧ ((under t path) = [] ∨ ∃ g, va = some ⟨g, 0, none⟩ ∧ w.heap.size ≤ g ∧ g < w'.heap.size ∧ RowAt w' g 0 ((under t path).map fun e => S e.path)) ∧ Below w.heap.size w w'

set_option maxHeartbeats 2000000 in
set_option maxRecDepth 100000 in
theorem at_any (t : List Ent) (tb mb : Nat) (path : Pn.B) (w : World) (hT : TreeMem w tb mb t) (hE : Env w) (hp : path.length < 4294967281) :
    Calls Tryd.prog 41 #[.pointer (some ⟨tb, 0, none⟩), S path] w (AtOk t path w) := by
  have hc := hT.cell
  have HT := Lib.hid hT
  have HE := Lib.hid hE
  have hlook : ∃ x va2 vc2 ok, (Instr.lookup 67 (.map (some mb)) (S path) true).run Tryd.prog w = .ok (.tuple #[entV x va2 vc2, .bool ok]) w ∧ (ok = true ↔ find t path ≠ none) := by
    rcases hT.lookB path (by omega) with ⟨h1, h2⟩ | ⟨x, v, h1, _, ⟨va2, vc2, rfl, _, _⟩, h3⟩
    · exact ⟨zeroE, none, 0, false, h2 w (Below.refl _ _), by simp [h1]⟩
    · exact ⟨x, va2, vc2, true, h3 w (Below.refl _ _), by simp [h1]⟩
  obtain ⟨x, va2, vc2, ok, hlk, hok⟩ := hlook
  by_cases hu : find t path = none ∧ path ≠ []
  · have hokf : ok = false := by
      cases ok with
      | false => rfl
      | true => exact absurd hu.1 (hok.1 rfl)
    subst hokf
    have hq : (path == []) = false := by rw [beq_eq_false_iff_ne]; exact hu.2
    have hun := under_nil hu.1 hu.2
    have HUN := Lib.hid hun
    clear hu hok hun hT hE
    go_enter Tryd.func41, Tryd.ntmps41
    go_wp2_with fail
    go_ret
    exact ⟨none, 0, by rw [HUN.out]; rfl, .inl HUN.out, (Below.refl _ _).alloc (Nat.le_refl _) _⟩
  · have hcase : ok = true ∨ (ok = false ∧ (path == []) = true) := by
      cases ok with
      | true => exact .inl rfl
      | false =>
        refine .inr ⟨rfl, ?_⟩
        have h1 : find t path = none := by
          cases hf : find t path with
          | none => rfl
          | some y => exact absurd (hok.2 (by rw [hf]; simp)) (by simp)
        have h2 : path = [] := Decidable.byContradiction fun h => hu ⟨h1, h⟩
        rw [h2]; rfl
    have hun := under_eq (t := t) (p := path) (by
      by_cases h1 : find t path = none
      · exact .inr (Decidable.byContradiction fun h => hu ⟨h1, h⟩)
      · exact .inl h1)
    have HUN := Lib.hid hun
    have hbA : Below w.heap.size w (w.alloc (.cells #[S x.path, .int .i64 x.kind, .int .i64 x.mode, .int .i64 x.time, .slice va2 x.data.length vc2, S x.link] 25)) := (Below.refl _ w).alloc (Nat.le_refl _) _
    have hTA := hT.below hbA
    have ctA := hTA.cell
    obtain ⟨es, hm1, hm2, hm3⟩ := hTA.map
    obtain ⟨w2, hrng, hra, hgr, hsz⟩ := hm1.range Tryd.underlying67
    have hz : (w.alloc (.cells #[S x.path, .int .i64 x.kind, .int .i64 x.mode, .int .i64 x.time, .slice va2 x.data.length vc2, S x.link] 25)).heap.size = w.heap.size + 1 := by simp
    have hB2 : Below w.heap.size w w2 := hbA.trans (grown_none hgr hbA.size)
    rw [hz] at hra hrng
    have HRA := Lib.hid hra
    have HB2 := Lib.hid hB2
    have HM2 := Lib.hid hm2
    have HM3 := Lib.hid hm3
    have HEV := Lib.hid fun e (he : e ∈ t) => valid_path_len (hT.good e he)
    have HLE := Lib.hid (es_len hT.sorted hm1 hm2 hm3)
    have HFEW := Lib.hid hT.few
    have WI := Lib.hid fun (q : Pn.B) w (hq : q.length ≤ 512) h => within_any ⟨path.toArray⟩ ⟨q.toArray⟩ w hp (show q.length < _ by omega) h
    clear hu hok hun hT hE hbA hTA hra hgr hB2 hm1 hz hm2 hm3
    go_enter Tryd.func41, Tryd.ntmps41
    rcases hcase with rfl | ⟨rfl, hq⟩
    all_goals go_wp2_with fail
    all_goals (
      go_loopg [7, 8] es.length (fun gg out _ wr => AtRel mb (w.heap.size + 1) es path w out gg wr)
      case atStart => exact ⟨[], [], none, 0, rfl, HRA.out, by simp, World.ownsRow_nil _ _ _ _, by simp, List.nodup_nil, Nat.le_refl _, HB2.out⟩
      case round =>
        obtain ⟨done, l, va, vc, rfl, hra, hgg, hm, hmem, hnd, hle, hb⟩ := hrel
        rcases hra.next 0 with ⟨hall, hnx⟩ | ⟨⟨k0, v0⟩, hpe, hpn, w3, hnx, hra3, hg3, hsz3, hent⟩
        · have HALL := Lib.hid hall
          have HM := Lib.hid hm
          have HMEM := Lib.hid hmem
          have HB := Lib.hid hb
          clear hall hm hmem hb
          have hmemu : ∀ q, q ∈ l ↔ q ∈ (under t path).map (fun e => e.path) := by
            intro q
            rw [HMEM.out q, HUN.out, List.mem_map]
            constructor
            · rintro ⟨p, h1, h2, h3⟩
              obtain ⟨e, he, hk, _⟩ := HM2.out p (hra.come p h1)
              have := S_inj (h2.symm.trans hk)
              subst this
              exact ⟨e, List.mem_filter.2 ⟨he, h3⟩, rfl⟩
            · rintro ⟨e, he, rfl⟩
              obtain ⟨he1, he2⟩ := List.mem_filter.1 he
              obtain ⟨v, hv⟩ := HM3.out e he1
              exact ⟨_, HALL.out _ hv, rfl, he2⟩
          have hSC := sort_own (HT.out.sorted) hnd hmemu HM.out HB.out (by have := HLE.out; have := HFEW.out; have := nodup_len hra.once hra.come; omega) (fun q hq => by
            obtain ⟨e, he, rfl⟩ := List.mem_map.1 ((hmemu q).1 hq)
            have := HEV.out e (under_sub he).1
            omega)
          have HSC := Lib.hid hSC
          clear hmemu hSC hra hnd hle hgg
          go_wp2_with fail
          refine HSC.out.mono ?_
          rintro e' w4 ⟨rfl, hlen, hres, hbb⟩
          have HRES := Lib.hid hres
          have HBB := Lib.hid hbb
          have HLEN := Lib.hid hlen
          clear hres hbb hlen
          go_wp2_with fail
          go_ret
          exact ⟨va, vc, by rw [HLEN.out]; rfl, HRES.out, HBB.out⟩
        · obtain ⟨e, he, hk, _⟩ := HM2.out _ hpe
          have hel := HEV.out e he
          simp only at hk
          subst hk
          have hb3 : Below w.heap.size w w3 := hb.grown hg3 hb.size (fun k hk => by cases hk; exact Nat.le_succ _)
          have hcall := WI.out e.path w3 hel (HE.out.below hb3)
          have hlen := nodup_len hra3.once hra3.come
          rw [List.length_append, List.length_singleton] at hlen
          have hdl : (done ++ [(S e.path, v0)]).length = done.length + 1 := by simp
          cases hwi : Pn.withinP path e.path with
          | false =>
            rw [hwi] at hcall
            have hmem2 : ∀ q, q ∈ l ↔ ∃ p ∈ done ++ [(S e.path, v0)], p.1 = S q ∧ Pn.withinP path q = true := by
              intro q
              rw [hmem q]
              constructor
              · rintro ⟨p, h1, h2⟩
                exact ⟨p, List.mem_append_left _ h1, h2⟩
              · rintro ⟨p, h1, h2, h3⟩
                rcases List.mem_append.1 h1 with h1 | h1
                · exact ⟨p, h1, h2, h3⟩
                · simp only [List.mem_singleton] at h1
                  subst h1
                  have := S_inj h2
                  subst this
                  rw [hwi] at h3; cases h3
            have hmm3 : StrsMem w3 w.heap.size (.slice va l.length vc) l := hm.kept hg3 (by
              obtain ⟨o, ho1, ho2⟩ := hra.iter
              rcases hob : (Value.slice va l.length vc).ownBlock with _ | g
              · exact .inl rfl
              · exact .inr (fun e1 => own_not_iter hm ho1 ho2 g hob (by cases e1; rfl)))
            have HC := Lib.hid hcall
            have HR3 := Lib.hid hra3
            have HM := Lib.hid hmm3
            have HMEM := Lib.hid hmem2
            have HB3 := Lib.hid hb3
            clear hcall hra3 hm hmem hmem2 hmm3 hb3 hg3 hb hra hwi hpe hpn he
            go_wp2_with fail
            refine HC.out.mono ?_
            rintro e' w4 ⟨rfl, hb4⟩
            have HR4 := Lib.hid (HR3.out.below hb4)
            have HM4 := Lib.hid (show StrsMem w4 w.heap.size (.slice va l.length vc) l from HM.out.kept (grown_below hb4 none) (by cases (Value.slice va l.length vc).ownBlock <;> simp))
            have HB4 := Lib.hid (below_then HB3.out hb4)
            clear hb4
            go_wp2_with fail
            go_roundg (es.length - (done.length + 1))
            case measure => omega
            case rel => exact ⟨done ++ [(S e.path, v0)], l, va, vc, rfl, HR4.out, by rw [hdl]; exact Nat.le_refl _, HM4.out, HMEM.out, hnd, by rw [hdl]; omega, HB4.out⟩
          | true =>
            rw [hwi] at hcall
            have hnl : e.path ∉ l := by
              intro hin
              obtain ⟨⟨pk, pv⟩, h1, h2, _⟩ := (hmem e.path).1 hin
              simp only at h2
              subst h2
              have := hra.map.one (hra.come _ h1) hpe
              subst this
              exact hpn h1
            have hmem2 : ∀ q, q ∈ l ++ [e.path] ↔ ∃ p ∈ done ++ [(S e.path, v0)], p.1 = S q ∧ Pn.withinP path q = true := by
              intro q
              rw [List.mem_append, List.mem_singleton, hmem q]
              constructor
              · rintro (⟨p, h1, h2⟩ | rfl)
                · exact ⟨p, List.mem_append_left _ h1, h2⟩
                · exact ⟨_, List.mem_append_right _ (List.mem_singleton.2 rfl), rfl, hwi⟩
              · rintro ⟨p, h1, h2, h3⟩
                rcases List.mem_append.1 h1 with h1 | h1
                · exact .inl ⟨p, h1, h2, h3⟩
                · simp only [List.mem_singleton] at h1
                  subst h1
                  exact .inr (S_inj h2).symm
            have hnd2 : (l ++ [e.path]).Nodup := by
              rw [List.nodup_append]
              refine ⟨hnd, by simp, ?_⟩
              intro a ha c hc2
              simp only [List.mem_singleton] at hc2
              subst hc2
              rintro rfl
              exact hnl ha
            have hmm3 : StrsMem w3 w.heap.size (.slice va l.length vc) l := hm.kept hg3 (by
              obtain ⟨o, ho1, ho2⟩ := hra.iter
              rcases hob : (Value.slice va l.length vc).ownBlock with _ | g
              · exact .inl rfl
              · exact .inr (fun e1 => own_not_iter hm ho1 ho2 g hob (by cases e1; rfl)))
            have hbig : l.length + 1 ≤ 4294967290 := by have := HLE.out; have := HFEW.out; omega
            have HC := Lib.hid hcall
            have HR3 := Lib.hid hra3
            have HM := Lib.hid hmm3
            have HMEM := Lib.hid hmem2
            have HND := Lib.hid hnd2
            have HB3 := Lib.hid hb3
            clear hcall hra3 hm hmem hmem2 hmm3 hb3 hg3 hb hra hwi hpe hpn he hnl hnd hnd2
            go_wp2_with fail
            refine HC.out.mono ?_
            rintro e' w4 ⟨rfl, hb4⟩
            have hr4 := HR3.out.below hb4
            have hm4 : StrsMem w4 w.heap.size (.slice va l.length vc) l := HM.out.kept (grown_below hb4 none) (by cases (Value.slice va l.length vc).ownBlock <;> simp)
            have hB4 := below_then HB3.out hb4
            obtain ⟨va', vc', w5, hrun, hm5, hB5, hg5⟩ := strs_app hm4 hB4 (Nat.le_refl _) hB4.size e.path hbig
            have hr5 : RangeAt Tryd.prog 9 w5 mb (w.heap.size + 1) es (done ++ [(S e.path, v0)]) := by
              obtain ⟨o1, ho1, ho2⟩ := hr4.iter
              obtain ⟨o3, ho3, ho4⟩ := hr4.mapObj
              refine (hr4.below ((Below.refl _ _).alloc (Nat.le_refl _) (.cells [S e.path].toArray 9))).kept hg5 (fun e1 => ?_) (fun e1 => ?_)
              · exact own_not_iter hm4 ho3 ho4 mb e1.symm rfl
              · exact own_not_iter hm4 ho1 ho2 (w.heap.size + 1) e1.symm rfl
            have HRUN := Lib.hid hrun
            have HM5 := Lib.hid hm5
            have HB5 := Lib.hid hB5
            have HR5 := Lib.hid hr5
            clear hrun hm5 hB5 hr5 hg5 hr4 hm4 hB4 hb4
            go_wp2_with (at_builtin; refine wpList_append_run rfl _ _ 75 rfl _ _ rfl rfl _ _ rfl HRUN.out ?_)
            go_roundg (es.length - (done.length + 1))
            case measure => omega
            case rel => exact ⟨done ++ [(S e.path, v0)], l ++ [e.path], va', vc', by simp, HR5.out, by rw [hdl]; exact Nat.le_refl _, by simpa using HM5.out, HMEM.out, HND.out, by simp; omega, HB5.out⟩)

end Go.Proofs.YtdcghpeomaailaaDoor
