/-
  Entries gathered in a box over several ranges; what a function leaves whose deferred calls are those of its ranges.
-/
import Derived.Test.YtdcghpeomaailaaDoorFtColl
import Derived.Deep.AppendLies
namespace Go.Proofs.YtdcghpeomaailaaDoor
open Go.RowKit Go.Lib Go.Shelf Ft

/-- The append of one entry with new bytes, and where the row lies. -/
theorem new_app_at {n : Nat} {w : World} {va : Option Addr} {vc : Nat} {l : List EC} (h : EntsNew n w va vc l) (hn : n ≤ w.heap.size) (x : EC) (hx : x.2.2 = x.1.data.length ∧ BytesAt w x.2.1 x.1.data ∧ NewB n w x.2.1) (hl : l.length + 1 ≤ 4294967281) :
    ∃ g vc' w5, (Builtin.append_ #[29, 29] 29 #[.slice va l.length vc, .slice (some ⟨w.heap.size, 0, none⟩) 1 1]).run Tryd.prog (w.alloc (.cells (entCells x.1 x.2.1 x.2.2).toArray 25)) = .ok (.slice (some ⟨g, 0, none⟩) (l.length + 1) vc') w5 ∧
      EntsNew n w5 (some ⟨g, 0, none⟩) vc' (l ++ [x]) ∧ w.grownBy w5 (Value.slice va l.length vc).ownBlock ∧ (∀ r, (Value.slice va l.length vc).ownBlock = some r → n ≤ r ∧ ∃ cs, w.heap[r]? = some (.cells cs 25)) ∧
      ((Value.slice va l.length vc).ownBlock = some g ∨ w.heap.size ≤ g) := by
  obtain ⟨i0, hi, hz0, hz1, hz2⟩ := info_parts ents_info
  have hown := h.own
  unfold EntsMem at hown
  obtain ⟨g, vc', w5, hrun, hown5, hgrow5, hat, _⟩ := run_append_lies (P := Tryd.prog) (w.alloc (.cells (entCells x.1 x.2.1 x.2.2).toArray 25)) 29 29 n 25 i0 _ _ _ Tryd.underlying29 hi hz0 hz1 hz2 rfl (by decide) (.slice va l.length vc) l.length (entsCells l) (hown.alloc _)
    ⟨w.heap.size, 0, none⟩ 1 1 (entCells x.1 x.2.1 x.2.2) rfl (World.news_of_block (World.alloc_heap_new w _)) (by intro u hu; simp at hu; rcases hu with rfl | rfl | rfl | rfl | rfl | rfl <;> rfl) (by omega) (by unfold maxLen; omega) (by omega) (by simp; omega) (w.heap.size + 1) (by simp)
  have hA : Below w.heap.size w (w.alloc (.cells (entCells x.1 x.2.1 x.2.2).toArray 25)) := (Below.refl _ _).alloc (Nat.le_refl _) _
  have hrow : ∀ r, (Value.slice va l.length vc).ownBlock = some r → n ≤ r ∧ ∃ cs, w.heap[r]? = some (.cells cs 25) := fun r hr => own_row h.own hr
  have hg : w.grownBy w5 (Value.slice va l.length vc).ownBlock := (grown_below hA _).trans hgrow5
  have hbytes : ∀ p ∈ l ++ [x], p.2.2 = p.1.data.length ∧ BytesAt w p.2.1 p.1.data ∧ NewB n w p.2.1 := fun p hp => by
    rcases List.mem_append.1 hp with hp | hp
    · exact h.each p hp
    · simp only [List.mem_singleton] at hp
      subst hp; exact hx
  have hne : ∀ r, (Value.slice va l.length vc).ownBlock = some r → ∀ p ∈ l ++ [x], ∀ a, p.2.1 = some a → a.block ≠ r := fun r hr p hp a ha => ((hbytes p hp).2.2 a ha).2.ne h.own hr
  refine ⟨g, vc', w5, hrun, ⟨?_, fun p hp => ?_⟩, hg, hrow, ?_⟩
  · unfold EntsMem
    rw [entsCells_append, List.length_append]
    simpa [entsCells] using hown5
  · obtain ⟨e1, e2, e3⟩ := hbytes p hp
    refine ⟨e1, ?_, fun a ha => ⟨(e3 a ha).1, (e3 a ha).2.kept hg fun e => hne _ e.symm p hp a ha rfl⟩⟩
    rcases e2 with e2 | ⟨g, off, x1, x2, x3⟩
    · exact .inl e2
    · exact .inr ⟨g, off, x1, Nat.lt_of_lt_of_le x2 hg.size, x3.grown hg x2 fun e => hne _ e.symm p hp _ x1 rfl⟩
  · rcases hat with h | h
    · exact .inl h
    · exact .inr (by omega)

/-- A box of entries of the call's own; wb: the world that all writes lie above. -/
structure AllBox (wb : World) (B n : Nat) (W : World) (va : Option Addr) (vc : Nat) (l : List EC) : Prop where
  box : W.heap[B]? = some (.cells #[.slice va l.length vc] 29)
  new : EntsNew n W va vc l
  lt : B < n
  ge : wb.heap.size ≤ B
  below : Below wb.heap.size wb W

theorem AllBox.more {wb : World} {B n : Nat} {W W' : World} {va : Option Addr} {vc : Nat} {l : List EC} (h : AllBox wb B n W va vc l) (hb : Below W.heap.size W W') : AllBox wb B n W' va vc l :=
  ⟨(hb.block _ (lt_of_block h.box)).trans h.box, h.new.below hb, h.lt, h.ge, below_then h.below hb⟩

/-- A store in a block of another kind. -/
theorem AllBox.store {wb : World} {B n : Nat} {W : World} {va : Option Addr} {vc : Nat} {l : List EC} (h : AllBox wb B n W va vc l) {b i : Nat} {v : Value} {cs : Array Value} {t : TypeId} (hb : W.heap[b]? = some (.cells cs t)) (h1 : t ≠ 25) (h2 : t ≠ 23) (h2' : t ≠ 5) (h3 : b ≠ B) (h4 : wb.heap.size ≤ b) :
    AllBox wb B n (W.setCell ⟨b, i, none⟩ v) va vc l := by
  have hg : W.grownBy (W.setCell ⟨b, i, none⟩ v) (some b) := grown_setCell (grown_refl _ _) _
  refine ⟨(Below.heap_setCell _ _ _ _ (by simpa using fun e => h3 e.symm)).trans h.box, ?_, h.lt, h.ge, h.below.setCell h4 _⟩
  refine h.new.keep hg (own_ne h.new.own hb h1) ?_
  rintro r e p hp a ha rfl
  cases e
  obtain ⟨cs', fr, h'⟩ := ((h.new.each p hp).2.2 a ha).2
  rw [hb] at h'
  cases h'
  exact h2' rfl

/-- Between two rounds of a range that gathers. r0: the row as the range began. -/
def CollI (wb w0 : World) (B n : Nat) (r0 : Option Nat) (l : List EC) (m : Nat) (pre : List EC) (W : World) : Prop :=
  ∃ va vc, AllBox wb B n W va vc (l ++ pre) ∧ n ≤ m ∧ ((Value.slice va (l ++ pre).length vc).ownBlock = r0 ∨ ∀ r, (Value.slice va (l ++ pre).length vc).ownBlock = some r → m ≤ r) ∧ Kept (fun i => i = B ∨ some i = r0) w0.heap.size w0 W

theorem collI_own (wb w0 : World) (B n : Nat) (r0 : Option Nat) (l : List EC) (D m : Nat) (hD : w0.heap.size ≤ D) (hw : wb.heap.size ≤ D) : OwnFrom D (CollI wb w0 B n r0 l m) := by
  rintro pre X Y row ⟨va, vc, h1, h2, h3, h4⟩ hg hr
  refine ⟨va, vc, ⟨?_, h1.new.kept hg (fun r e => (hr r e).2), h1.lt, h1.ge, h1.below.grown hg h1.below.size (fun k e => by have := (hr k e).1; omega)⟩, h2, h3, h4.trans ?_⟩
  · rw [hg.block _ (lt_of_block h1.box) (fun e => by obtain ⟨_, o, ho, hc⟩ := hr _ e.symm; rw [h1.box] at ho; cases ho; cases hc)]
    exact h1.box
  · exact Kept.of_grown hg h4.size (fun r e => .inr (by have := (hr r e).1; omega))

/-- One more. -/
theorem coll_more {wb w0 : World} {B n m : Nat} {r0 : Option Nat} {l pre : List EC} {u : List Ent} {x : EC} {W : World} (hI : CollI wb w0 B n r0 l m pre W) (hG : WG u m pre x W) (hmW : m ≤ W.heap.size) (hm0 : w0.heap.size ≤ m) (hlen : (l ++ pre).length + 1 ≤ 4294967281) :
    ∃ va vc g vc' w6, W.heap[B]? = some (.cells #[.slice va (l ++ pre).length vc] 29) ∧
      (Builtin.append_ #[29, 29] 29 #[.slice va (l ++ pre).length vc, .slice (some ⟨W.heap.size, 0, none⟩) 1 1]).run Tryd.prog (W.alloc (.cells (entCells x.1 x.2.1 x.2.2).toArray 25)) = .ok (.slice (some ⟨g, 0, none⟩) ((l ++ pre).length + 1) vc') w6 ∧
      w6.heap[B]? = some (.cells #[.slice va (l ++ pre).length vc] 29) ∧
      KeepsFrom w0.heap.size W (w6.setCell ⟨B, 0, none⟩ (.slice (some ⟨g, 0, none⟩) ((l ++ pre).length + 1) vc')) ∧ Kept (fun i => i = B ∨ some i = r0) m W (w6.setCell ⟨B, 0, none⟩ (.slice (some ⟨g, 0, none⟩) ((l ++ pre).length + 1) vc')) ∧
      CollI wb w0 B n r0 l m (pre ++ [x]) (w6.setCell ⟨B, 0, none⟩ (.slice (some ⟨g, 0, none⟩) ((l ++ pre).length + 1) vc')) := by
  obtain ⟨va, vc, hb, hn, hrow, hk⟩ := hI
  obtain ⟨g, vc', w6, hrun, hnew6, hg6, hrow6, hat⟩ := new_app_at hb.new (Nat.le_trans hn hmW) x ⟨hG.cap, hG.bytes, fun a ha => ⟨Nat.le_trans hn (hG.fresh a ha).1, (hG.fresh a ha).2⟩⟩ hlen
  have hBl := hb.lt
  have hBe := hb.ge
  have hb6 : w6.heap[B]? = some (.cells #[.slice va (l ++ pre).length vc] 29) := by
    rw [hg6.block _ (lt_of_block hb.box) (fun e => by have := (hrow6 _ e.symm).1; omega)]; exact hb.box
  have hkk : Kept (fun i => i = B ∨ some i = r0) m W (w6.setCell ⟨B, 0, none⟩ (.slice (some ⟨g, 0, none⟩) ((l ++ pre).length + 1) vc')) := by
    refine (Kept.of_grown hg6 hmW (fun r e => ?_)).trans (Kept.setCell w6 (p := ⟨B, 0, none⟩) _ (.inl (.inl rfl)))
    rcases hrow with h | h
    · exact .inl (.inr (by rw [← h, e]))
    · exact .inr (h r e)
  have hlen2 : (l ++ (pre ++ [x])).length = (l ++ pre).length + 1 := by rw [← List.append_assoc, List.length_append]; simp
  refine ⟨va, vc, g, vc', w6, hb.box, hrun, hb6, ?_, hkk, some ⟨g, 0, none⟩, vc', ⟨?_, ?_, hBl, hBe, ?_⟩, hn, ?_, hk.trans ?_⟩
  · exact ((keeps_grown hg6 fun r hr => by obtain ⟨_, cs, h'⟩ := hrow6 r hr; exact ⟨cs, _, h'⟩).trans (KeepsOthers.setCell w6 _ _)).from _
  · rw [block_set hb6 0 _, hlen2]; simp
  · rw [← List.append_assoc]; exact hnew6.set _ _ _ hBl
  · exact (hb.below.grown hg6 hb.below.size (fun k e => by have := (hrow6 k e).1; omega)).setCell hBe _
  · rw [hlen2]
    rcases hat with h | h
    · rcases hrow with h' | h'
      · exact .inl (by rw [← h', h]; rfl)
      · exact .inr fun r hr => h' r (by rw [h]; exact hr)
    · exact .inr fun r hr => by have : g = r := by simpa [Value.ownBlock] using hr
                                omega
  · exact ⟨hkk.os, hkk.tape, hkk.output, hkk.size, fun i h1 h2 => hkk.block i (by omega) h2⟩

/-- The deferred calls of ranges alone. -/
def colls (Ds : List Nat) : List Deferred := Ds.map fun D => { target := .collected D, args := #[] }

theorem leaves_colls {F : Fence} {n : Nat} {P : Program} {fn : Func} {tmps : Array Value} {R : Ending → World → Prop} (base : Nat) : ∀ (Ds : List Nat) (W : World), Ds.Nodup → (∀ D ∈ Ds, base ≤ D ∧ W.heap[D]? = some (.deferred (some []))) →
    (∀ W', Below base W W' → ∃ v, (results fn tmps).run P W' = .ok v W' ∧ R (.returned v) W') → LeavesInM F n P fn tmps R (colls Ds) .returning W
  | [], W, _, _, h => h W (Below.refl _ _)
  | D :: Ds, W, hn, hD, h => by
    obtain ⟨h1, h2⟩ := List.nodup_cons.1 hn
    obtain ⟨h3, h4⟩ := hD D (by simp)
    have hb : Below base W (W.putObj D (.deferred none)) := by
      have hg := grownBy_putObj' W D (.deferred none)
      exact ⟨hg.os, hg.tape, hg.output, hg.size, fun i hi => World.putObj_heap_other (by omega)⟩
    refine ⟨by simp, .inl ⟨_, _, rfl, run_takeDeferred h4, leaves_colls base Ds _ h2 (fun D' hD' => ⟨(hD D' (List.mem_cons_of_mem _ hD')).1, ?_⟩) fun W' hb' => h W' (hb.trans hb')⟩⟩
    rw [World.putObj_heap_other (fun e => h1 (by first | exact e ▸ hD' | exact e.symm ▸ hD'))]
    exact (hD D' (List.mem_cons_of_mem _ hD')).2

/-- Four sums in a box. -/
abbrev sumCells (s : List Ent) : Array Value := #[.int .i64 (files s), .int .i64 (dirs s), .int .i64 (links s), .int .i64 (Ft.bytes s)]

/-- Between two rounds of the loop over the children. -/
structure SumR (wb : World) (B b n : Nat) (u s : List Ent) (Ds : List Nat) (W : World) : Prop where
  all : ∃ va vc l, AllBox wb B n W va vc l ∧ l.map Prod.fst = u
  sum : W.heap[b]? = some (.cells (sumCells s) 50)
  ge : wb.heap.size ≤ b
  ne : b ≠ B
  nodup : Ds.Nodup
  defs : ∀ D ∈ Ds, wb.heap.size ≤ D ∧ W.heap[D]? = some (.deferred (some []))

theorem lt_of_obj {w : World} {b : Nat} {o : Obj} (h : w.heap[b]? = some o) : b < w.heap.size := (Array.getElem?_eq_some_iff.1 h).1

theorem SumR.below {wb : World} {B b n : Nat} {u s : List Ent} {Ds : List Nat} {W : World} (h : SumR wb B b n u s Ds W) : Below wb.heap.size wb W := by
  obtain ⟨va, vc, l, h1, _⟩ := h.all
  exact h1.below

theorem SumR.more {wb : World} {B b n : Nat} {u s : List Ent} {Ds : List Nat} {W W' : World} (h : SumR wb B b n u s Ds W) (hb : Below W.heap.size W W') : SumR wb B b n u s Ds W' := by
  obtain ⟨va, vc, l, h1, h2⟩ := h.all
  exact ⟨⟨va, vc, l, h1.more hb, h2⟩, (hb.block _ (lt_of_obj h.sum)).trans h.sum, h.ge, h.ne, h.nodup, fun D hD => ⟨(h.defs D hD).1, (hb.block _ (lt_of_obj (h.defs D hD).2)).trans (h.defs D hD).2⟩⟩

theorem SumR.set {wb : World} {B b n : Nat} {u : List Ent} {Ds : List Nat} {W : World} {cs : Array Value} (h1 : ∃ va vc l, AllBox wb B n W va vc l ∧ l.map Prod.fst = u) (h2 : W.heap[b]? = some (.cells cs 50)) (h3 : wb.heap.size ≤ b) (h4 : b ≠ B)
    (h5 : ∀ D ∈ Ds, wb.heap.size ≤ D ∧ W.heap[D]? = some (.deferred (some []))) (i : Nat) (v : Value) :
    (∃ va vc l, AllBox wb B n (W.setCell ⟨b, i, none⟩ v) va vc l ∧ l.map Prod.fst = u) ∧ (W.setCell ⟨b, i, none⟩ v).heap[b]? = some (.cells (cs.setIfInBounds i v) 50) ∧ ∀ D ∈ Ds, wb.heap.size ≤ D ∧ (W.setCell ⟨b, i, none⟩ v).heap[D]? = some (.deferred (some [])) := by
  obtain ⟨va, vc, l, g1, g2⟩ := h1
  refine ⟨⟨va, vc, l, g1.store h2 (by decide) (by decide) (by decide) h4 h3, g2⟩, block_set h2 i v, fun D hD => ⟨(h5 D hD).1, (Below.heap_setCell _ _ _ _ ?_).trans (h5 D hD).2⟩⟩
  rintro rfl
  have := (h5 _ hD).2
  rw [h2] at this; cases this

theorem SumR.add {wb : World} {B b n : Nat} {u s s' : List Ent} {Ds : List Nat} {W : World} (h : SumR wb B b n u s Ds W) {p q r x : Int} (e1 : p = files s') (e2 : q = dirs s') (e3 : r = links s') (e4 : x = Ft.bytes s') :
    SumR wb B b n u s' Ds ((((W.setCell ⟨b, 0, none⟩ (.int .i64 p)).setCell ⟨b, 1, none⟩ (.int .i64 q)).setCell ⟨b, 2, none⟩ (.int .i64 r)).setCell ⟨b, 3, none⟩ (.int .i64 x)) := by
  obtain ⟨a1, a2, a3⟩ := SumR.set h.all h.sum h.ge h.ne h.defs 0 (.int .i64 p)
  obtain ⟨b1, b2, b3⟩ := SumR.set a1 a2 h.ge h.ne a3 1 (.int .i64 q)
  obtain ⟨c1, c2, c3⟩ := SumR.set b1 b2 h.ge h.ne b3 2 (.int .i64 r)
  obtain ⟨d1, d2, d3⟩ := SumR.set c1 c2 h.ge h.ne c3 3 (.int .i64 x)
  refine ⟨d1, ?_, h.ge, h.ne, h.nodup, d3⟩
  rw [d2]
  subst e1 e2 e3 e4
  simp [sumCells]

theorem SumR.add1 {wb : World} {B b n : Nat} {u s s' : List Ent} {Ds : List Nat} {W : World} (h : SumR wb B b n u s Ds W) {q : Int} (e1 : files s = files s') (e2 : q = dirs s') (e3 : links s = links s') (e4 : Ft.bytes s = Ft.bytes s') :
    SumR wb B b n u s' Ds (W.setCell ⟨b, 1, none⟩ (.int .i64 q)) := by
  obtain ⟨a1, a2, a3⟩ := SumR.set h.all h.sum h.ge h.ne h.defs 1 (.int .i64 q)
  refine ⟨a1, ?_, h.ge, h.ne, h.nodup, a3⟩
  rw [a2]
  subst e2
  simp [sumCells, e1, e3, e4]

/-- Behind a range. -/
theorem SumR.next {wb w0 W : World} {B b n m : Nat} {u u2 s : List Ent} {Ds : List Nat} {va : Option Addr} {vc : Nat} {l ys : List EC} {D : Nat} (h : SumR wb B b n u s Ds w0) (ha : AllBox wb B n w0 va vc l) (hl : l.map Prod.fst = u)
    (hI : CollI wb w0 B n (Value.slice va l.length vc).ownBlock l m ys W) (hy : ys.map Prod.fst = u2) (hD : w0.heap.size ≤ D) (hDD : W.heap[D]? = some (.deferred (some []))) : SumR wb B b n (u ++ u2) s (D :: Ds) W := by
  obtain ⟨va', vc', h1, _, _, h4⟩ := hI
  have hno : ∀ {i : Nat} {o : Obj}, w0.heap[i]? = some o → (∀ cs, o ≠ .cells cs 25) → i ≠ B → W.heap[i]? = some o := fun {i o} ho hc hi => by
    rw [h4.block i (lt_of_obj ho) (by
      rintro (h | h)
      · exact hi h
      · obtain ⟨_, cs, h'⟩ := own_row ha.new.own h.symm
        rw [ho] at h'
        exact hc cs (Option.some.inj h'))]
    exact ho
  refine ⟨⟨va', vc', _, h1, by rw [List.map_append, hl, hy]⟩, hno h.sum (by simp) h.ne, h.ge, h.ne, ?_, fun D' hD' => ?_⟩
  · refine List.nodup_cons.2 ⟨fun hm => ?_, h.nodup⟩
    have := lt_of_obj (h.defs D hm).2
    omega
  · have hw := h.below.size
    rcases List.mem_cons.1 hD' with rfl | hD'
    · exact ⟨by omega, hDD⟩
    · refine ⟨(h.defs D' hD').1, hno (h.defs D' hD').2 (by simp) ?_⟩
      rintro rfl
      have := (h.defs _ hD').2
      rw [ha.box] at this; cases this

/-- Another box of entries turns. -/
theorem SumR.other {wb w0 W : World} {B b n B2 : Nat} {u s : List Ent} {Ds : List Nat} {cs : Array Value} (h : SumR wb B b n u s Ds w0) (hg : w0.grownBy W (some B2)) (h2 : w0.heap[B2]? = some (.cells cs 29)) (hne : B2 ≠ B) (hw : wb.heap.size ≤ B2) : SumR wb B b n u s Ds W := by
  obtain ⟨va, vc, l, ha, hl⟩ := h.all
  refine ⟨⟨va, vc, l, ⟨?_, ?_, ha.lt, ha.ge, ha.below.grown hg ha.below.size (fun k e => by cases e; exact hw)⟩, hl⟩, ?_, h.ge, h.ne, h.nodup, fun D hD => ⟨(h.defs D hD).1, ?_⟩⟩
  · exact (hg.block _ (lt_of_obj ha.box) (fun e => hne (by cases e; rfl))).trans ha.box
  · refine ha.new.keep hg (own_ne ha.new.own h2 (by decide)) ?_
    rintro r e p hp a' ha' rfl
    cases e
    obtain ⟨cs', fr, h'⟩ := ((ha.new.each p hp).2.2 a' ha').2
    rw [h2] at h'; simp at h'
  · exact (hg.block _ (lt_of_obj h.sum) (fun e => by cases e; have := h.sum; rw [h2] at this; simp at this)).trans h.sum
  · exact (hg.block _ (lt_of_obj (h.defs D hD).2) (fun e => by cases e; have := (h.defs _ hD).2; rw [h2] at this; cases this)).trans (h.defs D hD).2

/-- The same sums. -/
theorem SumR.same {wb W : World} {B b n : Nat} {u s s' : List Ent} {Ds : List Nat} (h : SumR wb B b n u s Ds W) (e1 : files s = files s') (e2 : dirs s = dirs s') (e3 : links s = links s') (e4 : Ft.bytes s = Ft.bytes s') : SumR wb B b n u s' Ds W :=
  ⟨h.all, by rw [h.sum]; simp [sumCells, e1, e2, e3, e4], h.ge, h.ne, h.nodup, h.defs⟩

/-- Four numbers are equal to themselves. -/
theorem eq4 (a b c d : Int) (W : World) : (Op.equalIn 10000 50 (.agg #[.int .i64 a, .int .i64 b, .int .i64 c, .int .i64 d]) (.agg #[.int .i64 a, .int .i64 b, .int .i64 c, .int .i64 d])).run Tryd.prog W = .ok true W := by
  have h3 := fun (d : Nat) (x y : Int) (w : World) => run_equalIn_int (P := Tryd.prog) w d 3 .i64 .i64 x y Tryd.underlying3
  have ht := Tryd.underlying50
  rw [show (10000 : Nat) = 9998 + 1 + 1 from rfl]
  rw [Op.equalIn]
  simp only [Sem.run_bind, run_underlying ht, Result.andThen_ok]
  simp [Std.Legacy.Range.forIn_eq_forIn_range', Std.Legacy.Range.size, List.range', h3, part, go_sem]

end Go.Proofs.YtdcghpeomaailaaDoor
