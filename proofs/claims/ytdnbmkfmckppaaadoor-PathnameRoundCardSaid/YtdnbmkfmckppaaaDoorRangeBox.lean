/-
  A range over an iterator that keeps its state in one cell of its own (strings.SplitSeq: the rest of the text): the library's laws ask that an iterator leave the caller's cells alone; here the caller's invariant is asked to bear whatever that one cell holds.
  The road (the record, the block for the rounds' deferred calls) is the library's own, 'wpIn_rangeFunc'.
-/
import Derived.Test.YtdnbmkfmckppaaaDoorBackward
namespace Go.Proofs.YtdnbmkfmckppaaaDoor
open Go.RowKit Go.Lib Go.Shelf

/-- J does not look at the cell of block bs. -/
def Bears {α : Type} (bs : Nat) (J : List α → World → Prop) : Prop := ∀ s A v, J s A → J s (A.setCell ⟨bs, 0, none⟩ v)

/-- The contract of an iterator whose state lies in block bs. -/
def SeqBoxed {α : Type} (F : Fence) (n : Nat) (P : Program) (g : Nat) (lb : Array Value) (encs : α → Array Value) (bs : Nat) (Kp : World → World → Prop) (S Sp : List α → Prop) (N : Nat) (w : World) : Prop :=
  ∀ (l : Nat) (J Jx : List α → World → Prop) (W : World), Below w.heap.size w W → Bears bs J → Bears bs Jx →
    (∀ pre x W1, J pre W1 → pre.length < N → YieldAt F (n - 1) P l (encs x) W1 fun e W' =>
      (e = .returned (.bool true) ∧ J (pre ++ [x]) W' ∧ Kp W1 W') ∨ (e = .returned (.bool false) ∧ Jx (pre ++ [x]) W')) →
    J [] W →
    CallsIn F n P g (#[.func (.yield l) #[] #[]] ++ lb) W fun e W' => (∃ v, e = .returned v) ∧ ((∃ xs, S xs ∧ J xs W') ∨ (∃ pre, Sp pre ∧ Jx pre W'))

theorem others_setCell {A : World} {a : Addr} {v : Value} {k : Nat} {o : Obj} (h : A.heap[k]? = some o) (ho : o.isCells = false) : (A.setCell a v).heap[k]? = some o := (KeepsOthers.setCell A a v).same k o h ho

theorem range_boxed {F : Fence} {n : Nat} {P : Program} {α : Type} {g : Operand} {ps : Array Tmp} {assign body : Code} {Q : Exit → Act → World → Prop} {a : Act} {w : World}
    (hro : F.round = none) (h1 : 1 ≤ n) {gf : Nat} {lb : Array Value} (hg : a.eval g = .func (.func gf) #[] lb) (hFg : F.fn gf) (eg : ∀ args w, (callFunc gf args).run P w = .ok (.enter gf args) w)
    {encs : α → Array Value} {bs : Nat} {Kp : World → World → Prop} {S Sp : List α → Prop} {N : Nat} (hseq : SeqBoxed F (n - 1) P gf lb encs bs Kp S Sp N w)
    (hKt : ∀ {A B C : World}, Kp A B → Kp B C → Kp A C) (hKb : ∀ (W : World) (l : Nat) (o : Obj), w.heap.size ≤ l → Kp W (W.putObj l o)) (hps : ∀ x, (encs x).size = ps.size)
    (I : List α → World → Prop) (Ix : Code → List α → World → Prop) (hI : OwnFrom w.heap.size I) (hIx : ∀ c, OwnFrom w.heap.size (Ix c)) (hIb : Bears bs I) (hIxb : ∀ c, Bears bs (Ix c)) (h0 : I [] w) (a₁ : α → Act)
    (hassign : ∀ (l : Nat) (x : α) (W : World) (K : Act → World → Prop), K (a₁ x) W → assign.wpIn (F.inRound l) (n - 1 - 1) P (Exit.then K (fun _ _ _ => False)) { tmps := (ps.zip (encs x)).foldl (fun t (p, v) => t.setIfInBounds p v) a.tmps, defers := [] } W)
    (hbody : ∀ (l : Nat) (pre : List α) (x : α) (W : World), I pre W → pre.length < N → body.wpIn (F.inRound l) (n - 1 - 1) P (ownPostG w.heap.size Kp I Ix (pre ++ [x]) W) (a₁ x) W)
    (hdone : ∀ (D : Nat) (xs : List α) (W : World), w.heap.size ≤ D → S xs → I xs W → W.heap[D]? = some (.deferred (some [])) → Q .normal { a with defers := { target := .collected D, args := #[] } :: a.defers } W)
    (hstop : ∀ (D : Nat) (c : Code) (pre : List α) (W : World), w.heap.size ≤ D → Sp pre → Ix c pre W → W.heap[D]? = some (.deferred (some [])) → c.wpIn F n P Q { a with defers := { target := .collected D, args := #[] } :: a.defers } W) :
    (Code.rangeFunc g ps assign body).wpIn F n P Q a w := by
  refine wpIn_rangeFunc fun fn hfn => ?_
  rw [hro]
  obtain ⟨rec, hrec⟩ : ∃ rec : LoopState → Option Code → Loop, rec = fun st pe => { state := st, pending := pe, fn, tmps := a.tmps, params := ps, assign, body, defers := w.heap.size } := ⟨_, rfl⟩
  obtain ⟨l, hlD⟩ : ∃ l, l = w.heap.size + 1 := ⟨_, rfl⟩
  -- the two blocks of book-keeping
  have keep : ∀ (s : LoopState) (pe : Option Code), Bears bs (fun (pre : List α) W => W.heap[l]? = some (.loop (rec s pe)) ∧ W.heap[w.heap.size]? = some (.deferred (some []))) :=
    fun s pe pre A v h => ⟨others_setCell h.1 rfl, others_setCell h.2 rfl⟩
  obtain ⟨W1, hW1⟩ : ∃ W1, (w.alloc (.deferred (some []))).alloc (.loop (rec .ready none)) = W1 := ⟨_, rfl⟩
  have e1 : W1.heap[l]? = some (.loop (rec .ready none)) := by
    rw [← hW1, hlD]; have := World.alloc_heap_new (w.alloc (.deferred (some []))) (.loop (rec .ready none)); rwa [World.size_alloc] at this
  have e2 : W1.heap[w.heap.size]? = some (.deferred (some [])) := by
    rw [← hW1]; exact (Below.heap_alloc _ _ _ (by simp)).trans (World.alloc_heap_new w _)
  have e3 : I [] W1 := by rw [← hW1]; exact hI.alloc _ (hI.alloc _ h0)
  have e4 : Below w.heap.size w W1 := by rw [← hW1]; exact ((Below.refl _ w).alloc (Nat.le_refl _) _).alloc (by simp) _
  refine ⟨l, [{ target := .collected w.heap.size, args := #[] }], W1, { target := .fn (.func gf) lb, args := #[.func (.yield l) #[] #[]] }, W1, gf, #[.func (.yield l) #[] #[]] ++ lb, W1, ?_, ?_, ?_, ?_, fun _ => h1, ?_⟩
  · rw [← hW1, hrec, hlD]; exact run_enterLoop_outer _ _ _ _ _
  · simp only [resolve, hg]; simp [go_sem]
  · intro f' hf'; simp [Target.leads] at hf'; subst hf'; exact hFg
  · simp [invoke, go_sem, eg]
  -- a turn of the record
  have turn : ∀ {A : World} {s s' : LoopState} {pe pe' : Option Code}, A.heap[l]? = some (.loop (rec s pe)) → A.heap[w.heap.size]? = some (.deferred (some [])) →
      (A.putObj l (.loop (rec s' pe'))).heap[l]? = some (.loop (rec s' pe')) ∧ (A.putObj l (.loop (rec s' pe'))).heap[w.heap.size]? = some (.deferred (some [])) ∧ Kp A (A.putObj l (.loop (rec s' pe'))) := fun h h' =>
    ⟨World.putObj_heap_same (Array.getElem?_eq_some_iff.1 h).1, (World.putObj_heap_other (by omega)).trans h', hKb _ _ _ (by omega)⟩
  refine (hseq l
    (fun pre W => I pre W ∧ (W.heap[l]? = some (.loop (rec .ready none)) ∧ W.heap[w.heap.size]? = some (.deferred (some []))))
    (fun pre W => ∃ c, Ix c pre W ∧ (W.heap[l]? = some (.loop (rec .done (some c))) ∧ W.heap[w.heap.size]? = some (.deferred (some []))))
    W1 e4 (fun s A v h => ⟨hIb s A v h.1, keep _ _ s A v h.2⟩) (fun s A v h => by obtain ⟨c, h1, h2⟩ := h; exact ⟨c, hIxb c s A v h1, keep _ _ s A v h2⟩) ?_ ⟨e3, e1, e2⟩).mono ?_
  · rintro pre x W ⟨hi, hl, hk⟩ hlen
    have hy := run_yield (P := P) (args := encs x) hl (by rw [hrec]; exact hps x)
    rw [hrec] at hy
    refine ⟨fn, _, assign, body, hy, roundIn_of_wpIn hfn (hassign l x W _ ?_)⟩
    refine ⟨_, run_beginRound hl (by rw [hrec]), ?_⟩
    have hb : ({ rec .ready none with state := .busy } : Loop) = rec .busy none := by rw [hrec]
    rw [hb]
    obtain ⟨t1, t2, t3⟩ := turn (s' := .busy) (pe' := none) hl hk
    refine wpIn_mono (hbody l pre x _ (hI.putObj _ hi (by omega) hl rfl) hlen) ?_
    have fin : ∀ (jump : Option Code) (W3 : World), KeepsFrom w.heap.size (W.putObj l (.loop (rec .busy none))) W3 →
        (Instr.endRound l jump).run P W3 = .ok (.bool jump.isNone) (W3.putObj l (.loop (rec (if jump.isNone then .ready else .done) jump))) ∧ W3.heap[l]? = some (.loop (rec .busy none)) ∧ W3.heap[w.heap.size]? = some (.deferred (some [])) := fun jump W3 hk3 => by
      have h3 := hk3.same _ _ (by omega) t1 rfl
      have := run_endRound (P := P) jump h3
      rw [hrec] at this ⊢
      exact ⟨this, by rw [hrec] at h3; exact h3, hk3.same _ _ (Nat.le_refl _) t2 rfl⟩
    have left : ∀ (c : Code) (W3 : World), KeepsFrom w.heap.size (W.putObj l (.loop (rec .busy none))) W3 → Ix c (pre ++ [x]) W3 → ∃ v w4, (Instr.endRound l (some c)).run P W3 = .ok v w4 ∧ ((Ending.returned v = .returned (.bool true) ∧ (I (pre ++ [x]) w4 ∧ (w4.heap[l]? = some (.loop (rec .ready none)) ∧ w4.heap[w.heap.size]? = some (.deferred (some [])))) ∧ Kp W w4) ∨
        (Ending.returned v = .returned (.bool false) ∧ ∃ c, Ix c (pre ++ [x]) w4 ∧ (w4.heap[l]? = some (.loop (rec .done (some c))) ∧ w4.heap[w.heap.size]? = some (.deferred (some []))))) := fun c W3 hk3 hx3 => by
      obtain ⟨hr, h3, h4⟩ := fin (some c) W3 hk3
      obtain ⟨u1, u2, _⟩ := turn (s' := .done) (pe' := some c) h3 h4
      exact ⟨_, _, hr, .inr ⟨rfl, c, (hIx c).putObj _ hx3 (by omega) h3 rfl, u1, u2⟩⟩
    rintro e a3 W3 hp
    cases e with
    | normal =>
      obtain ⟨hk3, hb3, hi3⟩ := hp
      obtain ⟨hr, h3, h4⟩ := fin none W3 hk3
      obtain ⟨u1, u2, u3⟩ := turn (s' := .ready) (pe' := none) h3 h4
      exact ⟨_, _, hr, .inl ⟨rfl, ⟨hI.putObj _ hi3 (by omega) h3 rfl, u1, u2⟩, hKt t3 (hKt hb3 u3)⟩⟩
    | ret => exact left .ret W3 hp.1 hp.2
    | exit id => exact left (.exit id) W3 hp.1 hp.2
    | goto t => exact left (.goto t) W3 hp.1 hp.2
    | panic ch => exact hp.elim
    | outgrown => exact hp.elim
  · rintro e W2 ⟨⟨v, rfl⟩, (⟨xs, hS, hi, hl, hk⟩ | ⟨pre, hSp, c, hi, hl, hk⟩)⟩
    · obtain ⟨_, u2, _⟩ := turn (s' := .exhausted) (pe' := none) hl hk
      refine ⟨none, _, by have := run_endLoop (P := P) hl (by rw [hrec]; simp); rw [hrec] at this; exact this, ?_⟩
      have := hdone _ xs _ (Nat.le_refl _) hS (hI.putObj _ hi (by omega) hl rfl) u2
      rw [hrec] at this; exact this
    · obtain ⟨_, u2, _⟩ := turn (s' := .exhausted) (pe' := some c) hl hk
      refine ⟨some c, _, by have := run_endLoop (P := P) hl (by rw [hrec]; simp); rw [hrec] at this; exact this, ?_⟩
      have := hstop _ c pre _ (Nat.le_refl _) hSp ((hIx c).putObj _ hi (by omega) hl rfl) u2
      rw [hrec] at this; exact this

end Go.Proofs.YtdnbmkfmckppaaaDoor
