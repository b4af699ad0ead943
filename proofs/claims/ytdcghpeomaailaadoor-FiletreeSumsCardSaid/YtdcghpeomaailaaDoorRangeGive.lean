/-
  A range over an iterator that hands out memory it has made, and reads memory between two rounds: the caller is told what an element brings ('G'); what it must keep is all but a set of blocks ('Kept').
  The road (the record, the block for the rounds' deferred calls) is the library's own, 'wpIn_rangeFunc'.
-/
import Derived.Test.YtdcghpeomaailaaDoorFtEnts
import Derived.RangeFuncNested
import Derived.RangeFuncBound
import Derived.RangeFuncCalls
import Derived.RangeFuncLeaves
import Derived.Shelf.Abstract
import Derived.Shelf.RegionOpen
import Derived.WalkKit
import Derived.OwnWalkIn
import Derived.TacticsInMore
import Derived.LoopNIn
import Derived.LoopIn
namespace Go.Proofs.YtdcghpeomaailaaDoor
open Go.RowKit Go.Lib Go.Shelf

/-- Below m all but the blocks of C is as it was. -/
structure Kept (C : Nat → Prop) (m : Nat) (A B : World) : Prop where
  os : B.os = A.os
  tape : B.tape = A.tape
  output : B.output = A.output
  size : A.heap.size ≤ B.heap.size
  block : ∀ i, i < m → ¬ C i → B.heap[i]? = A.heap[i]?

theorem Kept.refl (C : Nat → Prop) (m : Nat) (A : World) : Kept C m A A := ⟨rfl, rfl, rfl, Nat.le_refl _, fun _ _ _ => rfl⟩
theorem Kept.trans {C : Nat → Prop} {m : Nat} {X Y Z : World} (h : Kept C m X Y) (k : Kept C m Y Z) : Kept C m X Z :=
  ⟨k.os.trans h.os, k.tape.trans h.tape, k.output.trans h.output, Nat.le_trans h.size k.size, fun i h1 h2 => (k.block i h1 h2).trans (h.block i h1 h2)⟩
theorem Kept.wider {C C' : Nat → Prop} {m : Nat} {A B : World} (h : Kept C m A B) (hc : ∀ i, C i → C' i) : Kept C' m A B :=
  ⟨h.os, h.tape, h.output, h.size, fun i h1 h2 => h.block i h1 (fun h3 => h2 (hc i h3))⟩
theorem Kept.of_below {C : Nat → Prop} {m : Nat} {A B : World} (h : Below A.heap.size A B) (hm : m ≤ A.heap.size) : Kept C m A B :=
  ⟨h.os, h.tape, h.output, h.size, fun i h2 _ => h.block i (Nat.lt_of_lt_of_le h2 hm)⟩
theorem Kept.of_grown {C : Nat → Prop} {m : Nat} {A B : World} {row : Option Nat} (h : A.grownBy B row) (hm : m ≤ A.heap.size) (hr : ∀ r, row = some r → C r ∨ m ≤ r) : Kept C m A B :=
  ⟨h.os, h.tape, h.output, h.size, fun i h1 h2 => h.block i (Nat.lt_of_lt_of_le h1 hm) (fun e => by
    rcases hr i e.symm with h3 | h3
    · exact h2 h3
    · omega)⟩
theorem Kept.setCell {C : Nat → Prop} {m : Nat} (A : World) {p : Addr} (u : Value) (h : C p.block ∨ m ≤ p.block) : Kept C m A (A.setCell p u) :=
  ⟨rfl, rfl, rfl, by simp [World.setCell], fun i h3 h4 => Below.heap_setCell _ _ _ _ (fun e => by
    rcases h with h | h
    · exact h4 (e ▸ h)
    · omega)⟩
theorem Kept.drew {C : Nat → Prop} {m : Nat} (A : World) : Kept C m A A.drew := ⟨rfl, rfl, rfl, Nat.le_refl _, fun _ _ _ => rfl⟩
theorem Kept.putObj {C : Nat → Prop} {m : Nat} {A : World} {l : Nat} {o o' : Obj} (hl : A.heap[l]? = some o) (h1 : C l) : Kept C m A (A.putObj l o') := by
  have hg := grownBy_putObj' A l o'
  have hlt := (Array.getElem?_eq_some_iff.1 hl).1
  exact ⟨hg.os, hg.tape, hg.output, hg.size, fun i _ h3 => World.putObj_heap_other (fun e => h3 (by first | exact e ▸ h1 | exact e.symm ▸ h1))⟩
/-- What lies below nt is kept where C lies above it. -/
theorem Kept.below {C : Nat → Prop} {m nt : Nat} {A B : World} (h : Kept C m A B) (h1 : nt ≤ m) (h2 : ∀ i, C i → nt ≤ i) : Below nt A B :=
  ⟨h.os, h.tape, h.output, h.size, fun i hi => h.block i (Nat.lt_of_lt_of_le hi h1) (fun h3 => by have := h2 i h3; omega)⟩

/-- The contract of an iterator: G: what an element brings; J may look at m, the heap's size when the first element is on its way. -/
def SeqGive {α : Type} (F : Fence) (n : Nat) (P : Program) (g : Nat) (lb : Array Value) (encs : α → Array Value) (G : Nat → List α → α → World → Prop) (C : Nat → Prop) (S Sp : List α → Prop) (w : World) : Prop :=
  ∀ (l : Nat) (J : Nat → List α → World → Prop) (Jx : List α → World → Prop) (W : World), Below w.heap.size w W → w.heap.size ≤ l → l < W.heap.size →
    (∀ m s A B, J m s A → Below A.heap.size A B → J m s B) →
    (∀ m pre x W1, J m pre W1 → G m pre x W1 → W.heap.size ≤ m → m ≤ W1.heap.size → YieldAt F (n - 1) P l (encs x) W1 fun e W' =>
      (e = .returned (.bool true) ∧ J m (pre ++ [x]) W' ∧ Kept (fun i => C i ∨ i = l) m W1 W') ∨ (e = .returned (.bool false) ∧ Jx (pre ++ [x]) W')) →
    (∀ W', Below W.heap.size W W' → J W'.heap.size [] W') →
    CallsIn F n P g (#[.func (.yield l) #[] #[]] ++ lb) W fun e W' => (∃ v, e = .returned v) ∧ ((∃ m xs, S xs ∧ J m xs W') ∨ (∃ pre, Sp pre ∧ Jx pre W'))

theorem range_give {F : Fence} {n : Nat} {P : Program} {α : Type} {g : Operand} {ps : Array Tmp} {assign body : Code} {Q : Exit → Act → World → Prop} {a : Act} {w : World}
    (hro : F.round = none) (h1 : 1 ≤ n) {gf : Nat} {lb : Array Value} (hg : a.eval g = .func (.func gf) #[] lb) (hFg : F.fn gf) (eg : ∀ args w, (callFunc gf args).run P w = .ok (.enter gf args) w)
    {encs : α → Array Value} {G : Nat → List α → α → World → Prop} {C : Nat → Prop} {S Sp : List α → Prop} (hseq : SeqGive F (n - 1) P gf lb encs G C S Sp w)
    (hG : ∀ m pre x, OwnFrom w.heap.size (fun (_ : Unit) W => G m pre x W)) (hps : ∀ x, (encs x).size = ps.size)
    (I : Nat → List α → World → Prop) (Ix : Code → List α → World → Prop) (hI : ∀ m, OwnFrom w.heap.size (I m)) (hIx : ∀ c, OwnFrom w.heap.size (Ix c))
    (h0 : ∀ W', Below w.heap.size w W' → w.heap.size + 2 ≤ W'.heap.size → I W'.heap.size [] W')
    (Ax : α → Act → World → Prop) (hAx : ∀ x a', OwnFrom w.heap.size (fun (_ : Unit) W => Ax x a' W))
    (hassign : ∀ (l m : Nat) (_pre : List α) (x : α) (W : World) (K : Act → World → Prop), m ≤ W.heap.size → w.heap.size + 2 ≤ m →
      (∀ a' W', Below W.heap.size W W' → Ax x a' W' → K a' W') →
      assign.wpIn (F.inRound l) (n - 1 - 1) P (Exit.then K (fun _ _ _ => False)) { tmps := (ps.zip (encs x)).foldl (fun t (p, v) => t.setIfInBounds p v) a.tmps, defers := [] } W)
    (hbody : ∀ (l m : Nat) (pre : List α) (x : α) (a' : Act) (W : World), w.heap.size ≤ l → (∃ r, W.heap[l]? = some (.loop r)) → I m pre W → G m pre x W → m ≤ W.heap.size → w.heap.size + 2 ≤ m → Ax x a' W →
      body.wpIn (F.inRound l) (n - 1 - 1) P (ownPostG w.heap.size (Kept C m) (I m) Ix (pre ++ [x]) W) a' W)
    (hdone : ∀ (D m : Nat) (xs : List α) (W : World), w.heap.size ≤ D → S xs → I m xs W → W.heap[D]? = some (.deferred (some [])) → Q .normal { a with defers := { target := .collected D, args := #[] } :: a.defers } W)
    (hstop : ∀ (D : Nat) (c : Code) (pre : List α) (W : World), w.heap.size ≤ D → Sp pre → Ix c pre W → W.heap[D]? = some (.deferred (some [])) → c.wpIn F n P Q { a with defers := { target := .collected D, args := #[] } :: a.defers } W) :
    (Code.rangeFunc g ps assign body).wpIn F n P Q a w := by
  refine wpIn_rangeFunc fun fn hfn => ?_
  rw [hro]
  obtain ⟨rec, hrec⟩ : ∃ rec : LoopState → Option Code → Loop, rec = fun st pe => { state := st, pending := pe, fn, tmps := a.tmps, params := ps, assign, body, defers := w.heap.size } := ⟨_, rfl⟩
  obtain ⟨W1, hW1⟩ : ∃ W1, (w.alloc (.deferred (some []))).alloc (.loop (rec .ready none)) = W1 := ⟨_, rfl⟩
  have hL1 : W1.heap[w.heap.size + 1]? = some (.loop (rec .ready none)) := by
    rw [← hW1]; have := World.alloc_heap_new (w.alloc (.deferred (some []))) (.loop (rec .ready none)); rwa [World.size_alloc] at this
  have hK1 : W1.heap[w.heap.size]? = some (.deferred (some [])) := by
    rw [← hW1]; exact (Below.heap_alloc _ _ _ (by simp)).trans (World.alloc_heap_new w _)
  have hb1 : Below w.heap.size w W1 := by
    rw [← hW1]; exact ((Below.refl _ w).alloc (Nat.le_refl _) _).alloc (by simp) _
  have hs1 : W1.heap.size = w.heap.size + 2 := by rw [← hW1]; simp
  refine ⟨w.heap.size + 1, [{ target := .collected w.heap.size, args := #[] }], W1, { target := .fn (.func gf) lb, args := #[.func (.yield (w.heap.size + 1)) #[] #[]] }, W1, gf,
    #[.func (.yield (w.heap.size + 1)) #[] #[]] ++ lb, W1, ?_, ?_, ?_, ?_, fun _ => h1, ?_⟩
  · rw [← hW1, hrec]; exact run_enterLoop_outer _ _ _ _ _
  · simp only [resolve, hg]
    simp [go_sem]
  · intro f' hf'; simp [Target.leads] at hf'; subst hf'; exact hFg
  · simp [invoke, go_sem, eg]
  refine (hseq (w.heap.size + 1)
    (fun m pre W => I m pre W ∧ W.heap[w.heap.size + 1]? = some (.loop (rec .ready none)) ∧ W.heap[w.heap.size]? = some (.deferred (some [])))
    (fun pre W => ∃ c, Ix c pre W ∧ W.heap[w.heap.size + 1]? = some (.loop (rec .done (some c))) ∧ W.heap[w.heap.size]? = some (.deferred (some [])))
    W1 hb1 (by omega) (by omega)
    (fun m s A B hs hb => ⟨hI m s A B none hs.1 ⟨hb.os, hb.tape, hb.output, hb.size, fun i hi _ => hb.block i hi⟩ (fun r e => by cases e),
      (hb.block _ (Array.getElem?_eq_some_iff.1 hs.2.1).1).trans hs.2.1, (hb.block _ (Array.getElem?_eq_some_iff.1 hs.2.2).1).trans hs.2.2⟩)
    ?_ (fun W' hb => ⟨h0 W' (hb1.trans (hb.mono (by omega))) (by have := hb.size; omega), (hb.block _ (by omega)).trans hL1, (hb.block _ (by omega)).trans hK1⟩)).mono ?_
  · rintro m pre x W ⟨hi, hl, hk⟩ hgx hmm hmW
    rw [hs1] at hmm
    have hlt : w.heap.size + 1 < W.heap.size := (Array.getElem?_eq_some_iff.1 hl).1
    have hy := run_yield (P := P) (args := encs x) hl (by rw [hrec]; exact hps x)
    rw [hrec] at hy
    refine ⟨fn, _, assign, body, hy, roundIn_of_wpIn hfn (hassign _ m pre x W _ hmW hmm ?_)⟩
    clear hy
    intro a' Wa hba hax
    have hla := (hba.block _ hlt).trans hl
    have hka := (hba.block _ (by omega)).trans hk
    have hga : W.grownBy Wa none := ⟨hba.os, hba.tape, hba.output, hba.size, fun i hi _ => hba.block i hi⟩
    have hia := hI m pre W Wa none hi hga (fun r e => by cases e)
    have hGa := hG m pre x () W Wa none hgx hga (fun r e => by cases e)
    have hlta : w.heap.size + 1 < Wa.heap.size := (Array.getElem?_eq_some_iff.1 hla).1
    have hkpa : Kept (fun i => C i ∨ i = w.heap.size + 1) m W Wa := Kept.of_below hba hmW
    have hmWa : m ≤ Wa.heap.size := Nat.le_trans hmW hba.size
    refine ⟨_, run_beginRound hla (by rw [hrec]), ?_⟩
    have hl2 : (Wa.putObj (w.heap.size + 1) (.loop { rec .ready none with state := .busy })).heap[w.heap.size + 1]? = some (.loop { rec .ready none with state := .busy }) := World.putObj_heap_same hlta
    have hk2 : (Wa.putObj (w.heap.size + 1) (.loop { rec .ready none with state := .busy })).heap[w.heap.size]? = some (.deferred (some [])) := (World.putObj_heap_other (by omega)).trans hka
    have hw2 : Kept (fun i => C i ∨ i = w.heap.size + 1) m Wa (Wa.putObj (w.heap.size + 1) (.loop { rec .ready none with state := .busy })) := Kept.putObj hla (.inr rfl)
    refine wpIn_mono (hbody _ m pre x a' _ (by omega) ⟨_, hl2⟩ ((hI m).putObj _ hia (by omega) hla rfl) ((hG m pre x).putObj (s := ()) _ hGa (by omega) hla rfl) (Nat.le_trans hmWa hw2.size) hmm ((hAx x a').putObj (s := ()) _ hax (by omega) hla rfl)) ?_
    have fin : ∀ (jump : Option Code) (W3 : World), KeepsFrom w.heap.size (Wa.putObj (w.heap.size + 1) (.loop { rec .ready none with state := .busy })) W3 →
        (Instr.endRound (w.heap.size + 1) jump).run P W3 = .ok (.bool jump.isNone) (W3.putObj (w.heap.size + 1) (.loop (rec (if jump.isNone then .ready else .done) jump))) ∧
        W3.heap[w.heap.size + 1]? = some (.loop { rec .ready none with state := .busy }) ∧
        (W3.putObj (w.heap.size + 1) (.loop (rec (if jump.isNone then .ready else .done) jump))).heap[w.heap.size + 1]? = some (.loop (rec (if jump.isNone then .ready else .done) jump)) ∧
        (W3.putObj (w.heap.size + 1) (.loop (rec (if jump.isNone then .ready else .done) jump))).heap[w.heap.size]? = some (.deferred (some [])) := fun jump W3 hk3 => by
      have hl3 := hk3.same _ _ (by omega) hl2 rfl
      have := run_endRound (P := P) jump hl3
      rw [hrec] at this ⊢
      exact ⟨this, by rw [hrec] at hl3; exact hl3, World.putObj_heap_same (Array.getElem?_eq_some_iff.1 hl3).1, (World.putObj_heap_other (by omega)).trans (hk3.same _ _ (Nat.le_refl _) hk2 rfl)⟩
    rintro e a3 W3 hp
    cases e with
    | normal =>
      obtain ⟨hk3, hkp3, hi3⟩ := hp
      obtain ⟨hr, hl3, hl4, hk4⟩ := fin none W3 hk3
      exact ⟨_, _, hr, .inl ⟨rfl, ⟨(hI m).putObj _ hi3 (by omega) hl3 rfl, hl4, hk4⟩, hkpa.trans ((hw2.trans (hkp3.wider fun i h => .inl h)).trans (Kept.putObj hl3 (.inr rfl)))⟩⟩
    | ret =>
      obtain ⟨hk3, hi3⟩ := hp
      obtain ⟨hr, hl3, hl4, hk4⟩ := fin (some .ret) W3 hk3
      exact ⟨_, _, hr, .inr ⟨rfl, .ret, (hIx _).putObj _ hi3 (by omega) hl3 rfl, hl4, hk4⟩⟩
    | exit id =>
      obtain ⟨hk3, hi3⟩ := hp
      obtain ⟨hr, hl3, hl4, hk4⟩ := fin (some (.exit id)) W3 hk3
      exact ⟨_, _, hr, .inr ⟨rfl, .exit id, (hIx _).putObj _ hi3 (by omega) hl3 rfl, hl4, hk4⟩⟩
    | goto t =>
      obtain ⟨hk3, hi3⟩ := hp
      obtain ⟨hr, hl3, hl4, hk4⟩ := fin (some (.goto t)) W3 hk3
      exact ⟨_, _, hr, .inr ⟨rfl, .goto t, (hIx _).putObj _ hi3 (by omega) hl3 rfl, hl4, hk4⟩⟩
    | panic ch => exact hp.elim
    | outgrown => exact hp.elim
  · rintro e W2 ⟨⟨v, rfl⟩, (⟨m, xs, hS, hi, hl, hk⟩ | ⟨pre, hSp, c, hi, hl, hk⟩)⟩
    · exact ⟨none, _, by have := run_endLoop (P := P) hl (by rw [hrec]; simp); rw [hrec] at this; exact this, hdone _ m xs _ (Nat.le_refl _) hS ((hI m).putObj _ hi (by omega) hl rfl) ((World.putObj_heap_other (by omega)).trans hk)⟩
    · exact ⟨some c, _, by have := run_endLoop (P := P) hl (by rw [hrec]; simp); rw [hrec] at this; exact this, hstop _ c pre _ (Nat.le_refl _) hSp ((hIx c).putObj _ hi (by omega) hl rfl) ((World.putObj_heap_other (by omega)).trans hk)⟩

end Go.Proofs.YtdcghpeomaailaaDoor
