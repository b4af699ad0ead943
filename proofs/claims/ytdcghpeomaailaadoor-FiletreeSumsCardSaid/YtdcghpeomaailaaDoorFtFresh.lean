/-
  Entries that a call made, with bytes of their own: what keeps them; the append of one.
-/
import Derived.Test.YtdcghpeomaailaaDoorFtWalk
namespace Go.Proofs.YtdcghpeomaailaaDoor
open Go.RowKit Go.Lib Go.Shelf Ft

attribute [local go_sem] Oper.semAt_some

/-- An append whose run is known, inside a fence. -/
theorem wpListIn_append_run {F : Fence} {n : Nat} {P : Program} {w : World} {ops : Array Oper} {rest : List Oper} {o : Oper} {a : Act} {Q : Exit → Act → World → Prop} (hgd : o.guard = none) (s x : Operand) (t : TypeId)
    (ho : o.op = .call { callee := .builtin .append, args := #[s, x], argTypes := #[t, t] }) (vs vx : Value) (hs : a.eval s = vs) (hx : a.eval x = vx) (v' : Value) (w' : World) (hty : o.type = t)
    (hr : (Builtin.append_ #[t, t] t #[vs, vx]).run P w = .ok v' w') (h : wpListIn F n P ops Q rest (a.put o.dst v') w') : wpListIn F n P ops Q (o :: rest) a w := by
  refine wpListIn_plain hgd fun K hK => ?_
  unfold Oper.wpIn
  refine ⟨?_, ?_⟩
  · simp [Oper.about, ho, resolve, Target.leads, Sem.run_pure]
  · rw [Oper.semAt_plain F _ _ (by rw [ho]; intro c hc'; cases hc')]
    simp only [execOp, ho, resolve, invoke, builtin, Sem.run_bind, Sem.run_pure, Result.andThen_ok, List.map_toArray, List.map_cons, List.map_nil, hs, hx, hty, hr]
    exact hK _ _ h

/-- Entries, and the bytes of each, in blocks from n on. -/
structure EntsNew (n : Nat) (w : World) (va : Option Addr) (vc : Nat) (l : List EC) : Prop where
  own : EntsMem w n (.slice va l.length vc) l
  each : ∀ p ∈ l, p.2.2 = p.1.data.length ∧ BytesAt w p.2.1 p.1.data ∧ NewB n w p.2.1

theorem EntsNew.nil (n : Nat) (w : World) : EntsNew n w none 0 [] := ⟨World.ownsRow_nil _ _ _ _, by simp⟩

theorem own_row {w : World} {base : Nat} {e : TypeId} {size : Nat} {v : Value} {n : Nat} {xs : List Value} (h : w.ownsRow base e size v n xs) {r : Nat} (hr : v.ownBlock = some r) : base ≤ r ∧ ∃ cs, w.heap[r]? = some (.cells cs e) := by
  refine ⟨(h.lt r hr).1, ?_⟩
  rcases h.2 with ⟨rfl, _⟩ | ⟨g, cap, cur, rfl, _, hg, _⟩
  · cases hr
  · simp [Value.ownBlock] at hr
    subst hr
    exact ⟨cur, hg⟩

theorem U8.ne {w : World} {b r : Nat} (h : U8 w b) {base : Nat} {size : Nat} {v : Value} {n : Nat} {xs : List Value} (ho : w.ownsRow base 25 size v n xs) (hr : v.ownBlock = some r) : b ≠ r := by
  rintro rfl
  obtain ⟨cs, fr, h⟩ := h
  obtain ⟨_, cs', h'⟩ := own_row ho hr
  rw [h] at h'
  simp at h'

theorem EntsNew.keep {n : Nat} {w w' : World} {va : Option Addr} {vc : Nat} {l : List EC} (h : EntsNew n w va vc l) {row : Option Nat} (hg : w.grownBy w' row) (h1 : (Value.slice va l.length vc).ownBlock = none ∨ (Value.slice va l.length vc).ownBlock ≠ row) (h2 : ∀ r, row = some r → ∀ p ∈ l, ∀ a, p.2.1 = some a → a.block ≠ r) : EntsNew n w' va vc l := by
  refine ⟨h.own.kept hg h1, fun p hp => ?_⟩
  obtain ⟨e1, e2, e3⟩ := h.each p hp
  refine ⟨e1, ?_, fun a ha => ⟨(e3 a ha).1, (e3 a ha).2.kept hg fun e => h2 _ e.symm p hp a ha rfl⟩⟩
  rcases e2 with e2 | ⟨g, off, x1, x2, x3⟩
  · exact .inl e2
  · exact .inr ⟨g, off, x1, Nat.lt_of_lt_of_le x2 hg.size, x3.grown hg x2 fun e => h2 _ e.symm p hp _ x1 rfl⟩

theorem EntsNew.kept {n : Nat} {w w' : World} {va : Option Addr} {vc : Nat} {l : List EC} (h : EntsNew n w va vc l) {row : Option Nat} (hg : w.grownBy w' row) (hr : NoRow w row) : EntsNew n w' va vc l := by
  refine h.keep hg ?_ ?_
  · cases hv : (Value.slice va l.length vc).ownBlock with
    | none => exact .inl rfl
    | some r =>
      refine .inr fun e => ?_
      obtain ⟨_, cs, h'⟩ := own_row h.own hv
      obtain ⟨o, ho, hc⟩ := hr r e.symm
      rw [h'] at ho; cases ho; cases hc
  · rintro r e p hp a ha rfl
    obtain ⟨cs, fr, h'⟩ := ((h.each p hp).2.2 a ha).2
    obtain ⟨o, ho, hc⟩ := hr _ e
    rw [h'] at ho; cases ho; cases hc

theorem EntsNew.below {n : Nat} {w w' : World} {va : Option Addr} {vc : Nat} {l : List EC} (h : EntsNew n w va vc l) (hb : Below w.heap.size w w') : EntsNew n w' va vc l :=
  h.kept (grown_below hb none) (fun r e => by cases e)

/-- A store below n. -/
theorem EntsNew.set {n : Nat} {w : World} {va : Option Addr} {vc : Nat} {l : List EC} (h : EntsNew n w va vc l) (b i : Nat) (v : Value) (hb : b < n) : EntsNew n (w.setCell ⟨b, i, none⟩ v) va vc l := by
  refine h.keep (grown_setCell (grown_refl _ _) _) ?_ ?_
  · cases hv : (Value.slice va l.length vc).ownBlock with
    | none => exact .inl rfl
    | some r =>
      refine .inr fun e => ?_
      cases e
      have := (own_row h.own hv).1
      omega
  · rintro r e p hp a ha rfl
    cases e
    have := ((h.each p hp).2.2 a ha).1
    omega

theorem keeps_grown {A B : World} {row : Option Nat} (hg : A.grownBy B row) (hr : ∀ r, row = some r → ∃ cs t, A.heap[r]? = some (.cells cs t)) : KeepsOthers A B :=
  KeepsOthers.of_grownBy hg fun j o hj ho => by
    obtain ⟨cs, t, h⟩ := hr j hj
    rw [h] at ho; cases ho; rfl

/-- The append of one entry with new bytes. -/
theorem new_app {n : Nat} {w : World} {va : Option Addr} {vc : Nat} {l : List EC} (h : EntsNew n w va vc l) (hn : n ≤ w.heap.size) (x : EC) (hx : x.2.2 = x.1.data.length ∧ BytesAt w x.2.1 x.1.data ∧ NewB n w x.2.1) (hl : l.length + 1 ≤ 4294967281) :
    ∃ va' vc' w5, (Builtin.append_ #[29, 29] 29 #[.slice va l.length vc, .slice (some ⟨w.heap.size, 0, none⟩) 1 1]).run Tryd.prog (w.alloc (.cells (entCells x.1 x.2.1 x.2.2).toArray 25)) = .ok (.slice va' (l.length + 1) vc') w5 ∧
      EntsNew n w5 va' vc' (l ++ [x]) ∧ KeepsOthers w w5 ∧ w.grownBy w5 (Value.slice va l.length vc).ownBlock ∧ (∀ r, (Value.slice va l.length vc).ownBlock = some r → n ≤ r ∧ ∃ cs, w.heap[r]? = some (.cells cs 25)) := by
  obtain ⟨i0, hi, hz0, hz1, hz2⟩ := info_parts ents_info
  obtain ⟨v', w5, hrun, hown5, hgrow5, hnn⟩ := append_one (t := 29) Tryd.underlying29 hi hz0 hz1 hz2 rfl (by decide) w (.slice va l.length vc) l.length (entsCells l) h.own
    (entCells x.1 x.2.1 x.2.2) rfl (by intro u hu; simp at hu; rcases hu with rfl | rfl | rfl | rfl | rfl | rfl <;> rfl) (by unfold maxLen; omega) (by omega) hn
  obtain ⟨va', vc', hv'⟩ := own_form' hown5
  subst hv'
  have hA : Below w.heap.size w (w.alloc (.cells (entCells x.1 x.2.1 x.2.2).toArray 25)) := (Below.refl _ _).alloc (Nat.le_refl _) _
  have hrow : ∀ r, (Value.slice va l.length vc).ownBlock = some r → n ≤ r ∧ ∃ cs, w.heap[r]? = some (.cells cs 25) := fun r hr => own_row h.own hr
  have hg : w.grownBy w5 (Value.slice va l.length vc).ownBlock := (grown_below hA _).trans hgrow5
  have hbytes : ∀ p ∈ l ++ [x], p.2.2 = p.1.data.length ∧ BytesAt w p.2.1 p.1.data ∧ NewB n w p.2.1 := fun p hp => by
    rcases List.mem_append.1 hp with hp | hp
    · exact h.each p hp
    · simp only [List.mem_singleton] at hp
      subst hp; exact hx
  have hne : ∀ r, (Value.slice va l.length vc).ownBlock = some r → ∀ p ∈ l ++ [x], ∀ a, p.2.1 = some a → a.block ≠ r := fun r hr p hp a ha => ((hbytes p hp).2.2 a ha).2.ne h.own hr
  refine ⟨va', vc', w5, hrun, ⟨?_, fun p hp => ?_⟩, ?_, hg, hrow⟩
  · unfold EntsMem
    rw [entsCells_append, List.length_append]
    simpa [entsCells] using hown5
  · obtain ⟨e1, e2, e3⟩ := hbytes p hp
    refine ⟨e1, ?_, fun a ha => ⟨(e3 a ha).1, (e3 a ha).2.kept hg fun e => hne _ e.symm p hp a ha rfl⟩⟩
    rcases e2 with e2 | ⟨g, off, x1, x2, x3⟩
    · exact .inl e2
    · exact .inr ⟨g, off, x1, Nat.lt_of_lt_of_le x2 hg.size, x3.grown hg x2 fun e => hne _ e.symm p hp _ x1 rfl⟩
  · exact keeps_grown hg fun r hr => by
      obtain ⟨_, cs, h'⟩ := hrow r hr
      exact ⟨cs, _, h'⟩

theorem EntsNew.mono {n n' : Nat} {w : World} {va : Option Addr} {vc : Nat} {l : List EC} (h : EntsNew n w va vc l) (hn : n' ≤ n) : EntsNew n' w va vc l :=
  ⟨own_mono h.own hn, fun p hp => by
    obtain ⟨e1, e2, e3⟩ := h.each p hp
    exact ⟨e1, e2, fun a ha => ⟨Nat.le_trans hn (e3 a ha).1, (e3 a ha).2⟩⟩⟩

theorem EntsNew.at {n : Nat} {w : World} {va : Option Addr} {vc : Nat} {l : List EC} (h : EntsNew n w va vc l) : EntsAt w va (l.map Prod.fst) :=
  h.own.at fun p hp => by
    obtain ⟨e1, e2, _⟩ := h.each p hp
    exact ⟨by omega, e2⟩

end Go.Proofs.YtdcghpeomaailaaDoor
