/-
  The walk of pathname.Clean: a range over strings.SplitSeq.
-/
import Derived.Test.YtdnbmkfmckppaaaDoorSplitSeq
import Derived.Test.YtdnbmkfmckppaaaDoorJoinS
namespace Go.Proofs.YtdnbmkfmckppaaaDoor
open Go.RowKit Go.Lib Go.Shelf

attribute [local go_sem] Oper.semAt_some

/-- An append whose run is known, inside a fence. -/
theorem wpListIn_append_run {F : Fence} {n : Nat} {P : Program} {w : World} {ops : Array Oper} {rest : List Oper} {o : Oper} {a : Act} {Q : Exit → Act → World → Prop} (hgd : o.guard = none) (s x : Operand) (t : TypeId)
    (ho : o.op = .call { callee := .builtin .append, args := #[s, x], argTypes := #[t, t] }) (vs vx : Value) (hs : a.eval s = vs) (hx : a.eval x = vx) (v' : Value) (w' : World) (hty : o.type = t)
    (hr : (Builtin.append_ #[t, t] t #[vs, vx]).run P w = .ok v' w') (h : wpListIn F n P ops Q rest (a.put o.dst v') w') : wpListIn F n P ops Q (o :: rest) a w := by
  refine wpListIn_plain hgd fun K hK => ?_
  unfold Oper.wpIn
  refine ⟨?_, ?_⟩
  · simp [Oper.about, ho, resolve, Target.leads, Sem.run_pure]
  · rw [Oper.semAt_plain F _ _ (by rw [ho]; intro c hc'; cases hc')]
    simp only [execOp, ho, resolve, invoke, builtin, Sem.run_bind, Sem.run_pure, Result.andThen_ok, List.map_toArray, List.map_cons, List.map_nil, hs, hx, hty, hr]
    exact hK _ _ h

theorem own_cells {w : World} {base : Nat} {e : TypeId} {size : Nat} {v : Value} {n : Nat} {xs : List Value} (h : w.ownsRow base e size v n xs) {b : Nat} {o : Obj} (hb : w.heap[b]? = some o) (ho : o.isCells = false) : v.ownBlock = none ∨ v.ownBlock ≠ some b := by
  refine .inr fun he => ?_
  rcases h.2 with ⟨rfl, _⟩ | ⟨g, cap, cur, rfl, _, hg, _⟩
  · cases he
  · simp [Value.ownBlock] at he
    subst he
    rw [hb] at hg; cases hg; cases ho

theorem str_info : (Tryd.prog.info? 9).map (fun i => (i.zero, i.size, i.bytes)) = some (some (.string ⟨#[]⟩), 1, 16) := by kernel_rfl

def cleanFold (pre : List ByteArray) : Option (List Pn.B) := (pre.map (·.data.toList)).foldl Pn.cleanStep (some [])
theorem cleanFold_snoc (pre : List ByteArray) (x : ByteArray) : cleanFold (pre ++ [x]) = Pn.cleanStep (cleanFold pre) x.data.toList := by simp [cleanFold, List.foldl_append]

/-- The parts so far (the newest first). -/
structure PartsMem (w W : World) (st : List Pn.B) : Prop where
  box : ∃ va vc, W.heap[w.heap.size + 2]? = some (.cells #[.slice va st.length vc] 38) ∧ W.ownsRow (w.heap.size + 6) 9 1 (.slice va st.length vc) st.length (st.reverse.map S)
  r0 : W.heap[w.heap.size]? = some (.cells #[.string ⟨#[]⟩] 9)
  r1 : W.heap[w.heap.size + 1]? = some (.cells #[.int .i64 0] 24)
  below : Below w.heap.size w W
  six : w.heap.size + 6 ≤ W.heap.size

def ClI (w : World) (pre : List ByteArray) (W : World) : Prop := ∃ st, cleanFold pre = some st ∧ st.length ≤ pre.length ∧ PartsMem w W st
def ClX (w : World) (c : Code) (pre : List ByteArray) (W : World) : Prop :=
  c = .ret ∧ cleanFold pre = none ∧ W.heap[w.heap.size]? = some (.cells #[.string ⟨#[]⟩] 9) ∧ W.heap[w.heap.size + 1]? = some (.cells #[.int .i64 1] 24) ∧ Below w.heap.size w W

theorem cells_stay {X Y : World} {row : Option Nat} {b : Nat} {cs : Array Value} {t : TypeId} (h : X.heap[b]? = some (.cells cs t)) (hg : X.grownBy Y row) (hr : ∀ r, row = some r → ∃ o : Obj, X.heap[r]? = some o ∧ o.isCells = false) : Y.heap[b]? = some (.cells cs t) := by
  rw [hg.block b (lt_of_block h) (fun e => by obtain ⟨o, ho, hc⟩ := hr b e.symm; rw [h] at ho; cases ho; cases hc)]; exact h

theorem PartsMem.stay {w X Y : World} {st : List Pn.B} (h : PartsMem w X st) {row : Option Nat} (hg : X.grownBy Y row) (hr : ∀ r, row = some r → w.heap.size ≤ r ∧ ∃ o : Obj, X.heap[r]? = some o ∧ o.isCells = false) : PartsMem w Y st := by
  obtain ⟨va, vc, hb, ho⟩ := h.box
  refine ⟨⟨va, vc, cells_stay hb hg (fun r e => (hr r e).2), ho.kept hg ?_⟩, cells_stay h.r0 hg (fun r e => (hr r e).2), cells_stay h.r1 hg (fun r e => (hr r e).2), h.below.grown hg h.below.size (fun k e => (hr k e).1), Nat.le_trans h.six hg.size⟩
  cases row with
  | none => cases (Value.slice va st.length vc).ownBlock <;> simp
  | some r =>
    obtain ⟨_, o, h1, h2⟩ := hr r rfl
    exact own_cells ho h1 h2

theorem clI_own (w : World) {B : Nat} (hB : w.heap.size ≤ B) : OwnFrom B (ClI w) := by
  rintro pre X Y row ⟨st, h1, h2, h3⟩ hg hr
  exact ⟨st, h1, h2, h3.stay hg (fun r e => ⟨Nat.le_trans hB (hr r e).1, (hr r e).2⟩)⟩
theorem clX_own (w : World) {B : Nat} (hB : w.heap.size ≤ B) (c : Code) : OwnFrom B (ClX w c) := by
  rintro pre X Y row ⟨h1, h2, h3, h4, h5⟩ hg hr
  exact ⟨h1, h2, cells_stay h3 hg (fun r e => (hr r e).2), cells_stay h4 hg (fun r e => (hr r e).2), h5.grown hg h5.size (fun k e => Nat.le_trans hB (hr k e).1)⟩

theorem PartsMem.other {w X : World} {st : List Pn.B} (h : PartsMem w X st) {b : Nat} (v : Value) (h3 : w.heap.size + 3 ≤ b) (h6 : b < w.heap.size + 6) : PartsMem w (X.setCell ⟨b, 0, none⟩ v) st := by
  have hg : X.grownBy (X.setCell ⟨b, 0, none⟩ v) (some b) := grown_setCell (grown_refl _ _) _
  obtain ⟨va, vc, hb, ho⟩ := h.box
  refine ⟨⟨va, vc, ?_, ho.kept hg (.inr fun e => ?_)⟩, ?_, ?_, h.below.setCell (by simp; omega) v, Nat.le_trans h.six hg.size⟩
  · rw [Below.heap_setCell _ _ _ _ (by simp; omega)]; exact hb
  · have := (ho.lt _ e).1; omega
  · rw [Below.heap_setCell _ _ _ _ (by simp; omega)]; exact h.r0
  · rw [Below.heap_setCell _ _ _ _ (by simp; omega)]; exact h.r1

theorem PartsMem.put {w X : World} {st0 st : List Pn.B} (h : PartsMem w X st0) {va : Option Addr} {vc : Nat} (ho : X.ownsRow (w.heap.size + 6) 9 1 (.slice va st.length vc) st.length (st.reverse.map S)) : PartsMem w (X.setCell ⟨w.heap.size + 2, 0, none⟩ (.slice va st.length vc)) st := by
  have hg : X.grownBy (X.setCell ⟨w.heap.size + 2, 0, none⟩ (.slice va st.length vc)) (some (w.heap.size + 2)) := grown_setCell (grown_refl _ _) _
  obtain ⟨va0, vc0, hb, _⟩ := h.box
  refine ⟨⟨va, vc, ?_, ho.kept hg (.inr fun e => ?_)⟩, ?_, ?_, h.below.setCell (by simp) _, Nat.le_trans h.six hg.size⟩
  · rw [block_set hb 0 _]; rfl
  · have := (ho.lt _ e).1; omega
  · rw [Below.heap_setCell _ _ _ _ (by simp)]; exact h.r0
  · rw [Below.heap_setCell _ _ _ _ (by simp)]; exact h.r1

theorem box3_set {w : World} (X : World) (v : Value) : Box3 (w.heap.size + 1 + 1 + 1) X (X.setCell ⟨w.heap.size + 2, 0, none⟩ v) :=
  ⟨Below.heap_setCell _ _ _ _ (by simp <;> omega), Below.heap_setCell _ _ _ _ (by simp <;> omega), Below.heap_setCell _ _ _ _ (by simp <;> omega)⟩

theorem clI_bears (w : World) : Bears (w.heap.size + 3) (ClI w) := by
  rintro pre A v ⟨st, h1, h2, h3⟩
  exact ⟨st, h1, h2, h3.other v (Nat.le_refl _) (by omega)⟩
theorem clX_bears (w : World) (c : Code) : Bears (w.heap.size + 3) (ClX w c) := by
  rintro pre A v ⟨h1, h2, h3, h4, h5⟩
  exact ⟨h1, h2, by rw [Below.heap_setCell _ _ _ _ (by simp)]; exact h3, by rw [Below.heap_setCell _ _ _ _ (by simp)]; exact h4, h5.setCell (by simp) v⟩

theorem step_dot (st : List Pn.B) {p : Pn.B} (h : p = [] ∨ p = [46]) : Pn.cleanStep (some st) p = some st := by
  simp only [Pn.cleanStep]; rw [if_pos h]
theorem step_nil : Pn.cleanStep (some []) [46, 46] = none := rfl
theorem step_cons (q : Pn.B) (st : List Pn.B) : Pn.cleanStep (some (q :: st)) [46, 46] = some st := rfl
theorem step_in (st : List Pn.B) {p : Pn.B} (h : ¬ (p = [] ∨ p = [46])) (h2 : p ≠ [46, 46]) : Pn.cleanStep (some st) p = some (p :: st) := by
  simp only [Pn.cleanStep]; rw [if_neg h, if_neg h2]

/-- All but the last part. -/
theorem own_pop {W : World} {base : Nat} {va : Option Addr} {vc : Nat} {q : Pn.B} {st : List Pn.B} (h : W.ownsRow base 9 1 (.slice va (q :: st).length vc) (q :: st).length ((q :: st).reverse.map S)) : W.ownsRow base 9 1 (.slice va st.length vc) st.length (st.reverse.map S) ∧ (q :: st).length ≤ vc ∧ vc ≤ maxLen := by
  obtain ⟨hl, h⟩ := h
  rcases h with ⟨_, h0⟩ | ⟨g, cap, cur, hv, hb, hg, hn, hm, hc, ht⟩
  · simp at h0
  · injection hv with e1 e2 e3
    subst e1 e3
    refine ⟨⟨by simp, .inr ⟨g, vc, cur, rfl, hb, hg, by simp at hn; omega, hm, hc, ?_⟩⟩, hn, hm⟩
    have : cur.toList.take (st.length * 1) = (cur.toList.take ((q :: st).length * 1)).take (st.length * 1) := by
      rw [List.take_take]; congr 1; simp
    rw [this, ht]
    simp

/-- The append of one part. -/
theorem parts_app {w W : World} {va : Option Addr} {vc : Nat} {st : List Pn.B} (hP : PartsMem w W st) (hb : W.heap[w.heap.size + 2]? = some (.cells #[.slice va st.length vc] 38)) (ho : W.ownsRow (w.heap.size + 6) 9 1 (.slice va st.length vc) st.length (st.reverse.map S)) (p : Pn.B) (hl : st.length + 1 ≤ 4294967290) :
    ∃ va' vc' w5, (Builtin.append_ #[38, 38] 38 #[.slice va st.length vc, .slice (some ⟨W.heap.size, 0, none⟩) 1 1]).run Tryd.prog (W.alloc (.cells [S p].toArray 9)) = .ok (.slice va' (st.length + 1) vc') w5 ∧
      w5.heap[w.heap.size + 2]? = some (.cells #[.slice va st.length vc] 38) ∧ PartsMem w (w5.setCell ⟨w.heap.size + 2, 0, none⟩ (.slice va' (st.length + 1) vc')) (p :: st) ∧ KeepsOthers W (w5.setCell ⟨w.heap.size + 2, 0, none⟩ (.slice va' (st.length + 1) vc')) ∧ Box3 (w.heap.size + 1 + 1 + 1) W (w5.setCell ⟨w.heap.size + 2, 0, none⟩ (.slice va' (st.length + 1) vc')) := by
  obtain ⟨i0, hi, hz0, hz1, hz2⟩ := info_parts str_info
  obtain ⟨v', w5, hrun, hown5, hgrow5, _⟩ := append_one (t := 38) Tryd.underlying38 hi hz0 hz1 hz2 rfl (by decide) W (.slice va st.length vc) st.length (st.reverse.map S) ho
    [S p] rfl (by intro u hu; simp at hu; subst hu; rfl) (by unfold maxLen; omega) (by omega) hP.six
  obtain ⟨va', vc', hv'⟩ := own_form' hown5
  subst hv'
  have hA : Below W.heap.size W (W.alloc (.cells [S p].toArray 9)) := (Below.refl _ _).alloc (Nat.le_refl _) _
  have hlow : ∀ k, k < w.heap.size + 6 → w5.heap[k]? = W.heap[k]? := fun k hk => by
    have hkW : k < W.heap.size := Nat.lt_of_lt_of_le hk hP.six
    rw [hgrow5.block k (by simp; omega) (fun e => by have := (ho.lt _ e.symm).1; omega), hA.block k hkW]
  have hothers : KeepsOthers W w5 := (KeepsOthers.alloc _ _).trans (KeepsOthers.of_grownBy hgrow5 (fun j o hj hoj => by
    rcases ho.2 with ⟨e, _⟩ | ⟨g, cap, cur, e, _, hg, _⟩
    · rw [e] at hj; cases hj
    · rw [e] at hj; simp [Value.ownBlock] at hj; subst hj
      have := (hA.block _ (lt_of_block hg)).trans hg
      rw [this] at hoj; cases hoj; rfl))
  have hb5 : w5.heap[w.heap.size + 2]? = some (.cells #[.slice va st.length vc] 38) := (hlow _ (by omega)).trans hb
  have hg : w5.grownBy (w5.setCell ⟨w.heap.size + 2, 0, none⟩ (.slice va' (st.length + 1) vc')) (some (w.heap.size + 2)) := grown_setCell (grown_refl _ _) _
  have hsz5 : W.heap.size ≤ w5.heap.size := hothers.size
  have hB5 : Below w.heap.size w w5 := ⟨hgrow5.os.trans (hA.os.trans hP.below.os), hgrow5.tape.trans (hA.tape.trans hP.below.tape), hgrow5.output.trans (hA.output.trans hP.below.output), Nat.le_trans hP.below.size hsz5, fun i hi => (hlow i (by omega)).trans (hP.below.block i hi)⟩
  refine ⟨va', vc', w5, hrun, hb5, ⟨⟨va', vc', by rw [block_set hb5 0 _]; rfl, ?_⟩, ?_, ?_, hB5.setCell (by simp) _, Nat.le_trans hP.six (Nat.le_trans hsz5 hg.size)⟩, hothers.trans (KeepsOthers.setCell _ _ _), ?_⟩
  · have h1 : w5.ownsRow (w.heap.size + 6) 9 1 (.slice va' (p :: st).length vc') (p :: st).length ((p :: st).reverse.map S) := by simpa using hown5
    refine h1.kept hg (.inr fun e => ?_)
    have := (h1.lt _ e).1; omega
  · rw [Below.heap_setCell _ _ _ _ (by simp)]; exact (hlow _ (by omega)).trans hP.r0
  · rw [Below.heap_setCell _ _ _ _ (by simp)]; exact (hlow _ (by omega)).trans hP.r1
  · exact Box3.trans ⟨hlow _ (by omega), hlow _ (by omega), hlow _ (by omega)⟩ (box3_set w5 _)

theorem foldl_none (l : List Pn.B) : l.foldl Pn.cleanStep none = none := by
  induction l with
  | nil => rfl
  | cons a r ih => exact ih

theorem clean_none {s : ByteArray} {xs pre : List ByteArray} (hxs : xs.map (·.data.toList) = Pn.splitS 47 s.data.toList) (hpre : pre <+: xs) (h : cleanFold pre = none) : Pn.cleanPath s.data.toList = none := by
  obtain ⟨r, rfl⟩ := hpre
  have hc : Pn.cleanParts s.data.toList = none := by
    unfold Pn.cleanParts
    rw [← hxs, List.map_append, List.foldl_append]
    unfold cleanFold at h
    rw [h, foldl_none]; rfl
  unfold Pn.cleanPath
  rw [hc]

theorem fold_weight : ∀ (l acc st : List Pn.B), l.foldl Pn.cleanStep (some acc) = some st → weight st ≤ weight acc + weight l
  | [], acc, st, h => by simp at h; subst h; simp [weight]
  | p :: r, acc, st, h => by
    rw [List.foldl_cons] at h
    cases hq : Pn.cleanStep (some acc) p with
    | none => rw [hq, foldl_none] at h; cases h
    | some a2 =>
      rw [hq] at h
      have h1 := fold_weight r a2 st h
      have h2 : weight a2 ≤ weight acc + (p.length + 1) := by
        simp only [Pn.cleanStep] at hq
        split at hq
        · cases hq; omega
        · split at hq
          · split at hq
            · cases hq
            · cases hq; simp only [weight, List.map_cons, List.sum_cons]; omega
          · cases hq; simp only [weight, List.map_cons, List.sum_cons]; omega
      simp only [weight, List.map_cons, List.sum_cons] at *
      omega

theorem weight_rev (l : List Pn.B) : weight l.reverse = weight l := by simp [weight, List.sum_reverse]

theorem set2_0 {w w3 : World} {v v' : Value} (h0 : w3.heap[w.heap.size]? = some (.cells #[.string ⟨#[]⟩] 9)) : ((w3.setCell ⟨w.heap.size, 0, none⟩ v).setCell ⟨w.heap.size + 1, 0, none⟩ v').cell? ⟨w.heap.size, 0, none⟩ = some v := by
  have k : ((w3.setCell ⟨w.heap.size, 0, none⟩ v).setCell ⟨w.heap.size + 1, 0, none⟩ v').heap[w.heap.size]? = some (.cells #[v] 9) := by
    rw [Below.heap_setCell _ _ _ _ (by simp), block_set h0 0 _]; rfl
  exact cell_of_block' k 0
theorem set2_1 {w w3 : World} {v v' : Value} (h1 : w3.heap[w.heap.size + 1]? = some (.cells #[.int .i64 0] 24)) : ((w3.setCell ⟨w.heap.size, 0, none⟩ v).setCell ⟨w.heap.size + 1, 0, none⟩ v').cell? ⟨w.heap.size + 1, 0, none⟩ = some v' := by
  have hk : (w3.setCell ⟨w.heap.size, 0, none⟩ v).heap[w.heap.size + 1]? = some (.cells #[.int .i64 0] 24) := by rw [Below.heap_setCell _ _ _ _ (by simp)]; exact h1
  have k : ((w3.setCell ⟨w.heap.size, 0, none⟩ v).setCell ⟨w.heap.size + 1, 0, none⟩ v').heap[w.heap.size + 1]? = some (.cells #[v'] 24) := by
    rw [block_set hk 0 _]; rfl
  exact cell_of_block' k 0

/-- What Clean answers. -/
def cleanTop (l : Pn.B) : Pn.B × Int := match Pn.cleanPath l with
  | none => ([], 1)
  | some p => (p, 0)

theorem alloc_old {X : World} {b : Nat} {o : Obj} (h : X.heap[b]? = some o) (p : Obj) : (X.alloc p).heap[b]? = some o := (Below.heap_alloc X p b (Array.getElem?_eq_some_iff.1 h).1).trans h

theorem six_new (w : World) (A B C D E G : Obj) :
    let W := (((((w.alloc A).alloc B).alloc C).alloc D).alloc E).alloc G
    W.heap[w.heap.size]? = some A ∧ W.heap[w.heap.size + 1]? = some B ∧ W.heap[w.heap.size + 2]? = some C ∧ W.heap[w.heap.size + 3]? = some D ∧ W.heap[w.heap.size + 4]? = some E ∧ W.heap[w.heap.size + 5]? = some G ∧ Below w.heap.size w W ∧ W.heap.size = w.heap.size + 6 := by
  have e0 := heap_alloc_new w A
  have e1 := heap_alloc_new (w.alloc A) B
  have e2 := heap_alloc_new ((w.alloc A).alloc B) C
  have e3 := heap_alloc_new (((w.alloc A).alloc B).alloc C) D
  have e4 := heap_alloc_new ((((w.alloc A).alloc B).alloc C).alloc D) E
  have e5 := heap_alloc_new (((((w.alloc A).alloc B).alloc C).alloc D).alloc E) G
  simp only [World.size_alloc] at e1 e2 e3 e4 e5
  refine ⟨alloc_old (alloc_old (alloc_old (alloc_old (alloc_old e0 B) C) D) E) G, alloc_old (alloc_old (alloc_old (alloc_old e1 C) D) E) G, alloc_old (alloc_old (alloc_old e2 D) E) G, alloc_old (alloc_old e3 E) G, alloc_old e4 G, e5, ?_, by simp⟩
  exact (((((((Below.refl _ w).alloc (Nat.le_refl _) _).alloc (by simp) _).alloc (by simp; omega) _).alloc (by simp; omega) _).alloc (by simp; omega) _).alloc (by simp; omega) _)

theorem clean_done {s : ByteArray} {ys : List ByteArray} {st : List Pn.B} (hys : ys.map (·.data.toList) = Pn.splitS 47 s.data.toList) (h : cleanFold ys = some st) : cleanTop s.data.toList = if Pn.validP (Pn.joinS 47 st.reverse) then (Pn.joinS 47 st.reverse, 0) else ([], 1) := by
  have hc : Pn.cleanParts s.data.toList = some st.reverse := by
    unfold Pn.cleanParts
    unfold cleanFold at h
    rw [← hys, h]; rfl
  unfold cleanTop Pn.cleanPath
  rw [hc]
  simp only
  cases Pn.validP (Pn.joinS 47 st.reverse) <;> rfl

set_option maxHeartbeats 2000000 in
set_option maxRecDepth 100000 in
theorem clean_top (s : ByteArray) (w : World) (hs : s.size < 4294967280) (hE : Env w) :
    Calls Tryd.prog 26 #[.string s] w fun e w' => e = .returned (.tuple #[S (cleanTop s.data.toList).1, .int .i64 (cleanTop s.data.toList).2]) ∧ Below w.heap.size w w' := by
  have HE := Lib.hid hE
  refine (callsIn_wide (n := 3)).1 ?_
  refine callsIn_of_wp_marks Tryd.func26 rfl trivial ?_ rfl
  simp only [Tryd.ntmps26, List.size_toArray, List.length_cons, List.length_nil, Nat.reduceAdd, Nat.reduceSub, Array.replicate_succ, Array.replicate_zero, List.push_toArray, List.append_toArray, List.nil_append, List.cons_append]
  refine wpIn_wide.2 ?_
  go_wp2_with fail
  refine (splitSeq_any s 47 _).mono ?_
  rintro e w' ⟨rfl, hw⟩
  rw [hw]; clear hw
  go_wp2_with fail
  have hf := six_new w (.cells #[.string ⟨#[]⟩] 9) (.cells #[.int .i64 0] 24) (.cells #[.slice none 0 0] 38) (.cells #[.string s] 9) (.cells #[.string ⟨#[47]⟩] 9) (.cells #[.int .i64 0] 3)
  generalize hW : (((((w.alloc (.cells #[.string ⟨#[]⟩] 9)).alloc (.cells #[.int .i64 0] 24)).alloc (.cells #[.slice none 0 0] 38)).alloc (.cells #[.string s] 9)).alloc (.cells #[.string ⟨#[47]⟩] 9)).alloc (.cells #[.int .i64 0] 3) = W1 at *
  obtain ⟨b0, b1, b2, b3, b4, b5, hB, hz⟩ := hf
  clear hW
  have HP0 := Lib.hid (show PartsMem w W1 [] from ⟨⟨none, 0, b2, World.ownsRow_nil _ _ _ _⟩, b0, b1, hB, by omega⟩)
  refine wpIn_wide.1 (range_boxed (F := Fence.wide) (n := 3) rfl (by omega) (gf := 83) (lb := #[.pointer (some ⟨w.heap.size + 1 + 1 + 1 + 1, 0, none⟩), .pointer (some ⟨w.heap.size + 1 + 1 + 1, 0, none⟩), .pointer (some ⟨w.heap.size + 1 + 1 + 1 + 2, 0, none⟩)]) rfl trivial (enters_of Tryd.func83 (by kernel_rfl) rfl)
    (splitSeq_boxed _ (by omega) (w.heap.size + 1 + 1 + 1) 47 s (by omega) W1 b3 b4 b5) Box3.trans (fun W l o hl => ⟨World.putObj_heap_other (by omega), World.putObj_heap_other (by omega), World.putObj_heap_other (by omega)⟩) (fun _ => rfl)
    (ClI w) (ClX w) (clI_own w hB.size) (clX_own w hB.size) (clI_bears w) (clX_bears w) ⟨[], rfl, Nat.le_refl _, HP0.out⟩ (fun x => { tmps := #[.string s, undef, .pointer (some ⟨w.heap.size, 0, none⟩), .pointer (some ⟨w.heap.size + 1, 0, none⟩), .pointer (some ⟨w.heap.size + 1 + 1, 0, none⟩), .string x, undef, .string s, .func (.func 83) #[] #[.pointer (some ⟨w.heap.size + 1 + 1 + 1 + 1, 0, none⟩), .pointer (some ⟨w.heap.size + 1 + 1 + 1, 0, none⟩), .pointer (some ⟨w.heap.size + 1 + 1 + 1 + 2, 0, none⟩)], .string x, undef, undef, undef, undef, undef, undef, undef, undef, undef, undef, undef, undef, undef, undef, undef, undef, undef, undef, undef, undef, undef, undef, undef], defers := [] }) ?assign ?body ?done ?stop)
  case assign =>
    intro l x W K hK
    gi_wp2
    exact hK
  case body =>
    rintro l pre x W ⟨st, hst, hsl, hP⟩ hlt
    obtain ⟨p, rfl⟩ : ∃ p : Pn.B, x = ⟨p.toArray⟩ := ⟨x.data.toList, rfl⟩
    have HP := Lib.hid hP
    have HST := Lib.hid hst
    obtain ⟨va, vc, hb, ho⟩ := hP.box
    have HOWN := Lib.hid ho
    have HBOX := Lib.hid hb
    have d := cell_of_block' hb 0
    have f := free_of_block hb 0
    have hsn := cleanFold_snoc pre ⟨p.toArray⟩
    rw [hst] at hsn
    have HSN := Lib.hid (hsn.trans (show Pn.cleanStep (some st) p = _ from rfl))
    clear hP hst hb ho hsn
    by_cases hdot : p = [] ∨ p = [46]
    · have hstep : Pn.cleanStep (some st) p = some st := step_dot st hdot
      have HS := Lib.hid (HSN.out.trans hstep)
      have fin : ClI w (pre ++ [⟨p.toArray⟩]) W := ⟨st, HS.out, by simp; omega, HP.out⟩
      have HFIN := Lib.hid fin
      clear fin hstep
      rcases hdot with rfl | rfl
      all_goals gi_wp2
      all_goals exact ⟨KeepsFrom.refl _ _, Box3.refl _ _, HFIN.out⟩
    · have hn1 : (p == []) = false := beq_eq_false_iff_ne.2 fun e => hdot (.inl e)
      have hn2 : (p == [46]) = false := beq_eq_false_iff_ne.2 fun e => hdot (.inr e)
      by_cases hdd : p = [46, 46]
      · subst hdd
        cases st with
        | nil =>
          have HS := Lib.hid (HSN.out.trans step_nil)
          have e0 := cell_of_block' HP.out.r0 0
          have e1 := cell_of_block' HP.out.r1 0
          have g0 := free_of_block HP.out.r0 0
          have g1 := free_of_block HP.out.r1 0
          simp at e0 e1
          clear hdot
          gi_wp2
          exact ⟨((KeepsOthers.setCell _ _ _).trans (KeepsOthers.setCell _ _ _)).from _, rfl, HS.out, by rw [Below.heap_setCell _ _ _ _ (by simp), block_set HP.out.r0 0 _]; rfl, by
            have hk : (W.setCell ⟨w.heap.size, 0, none⟩ (.string ⟨#[]⟩)).heap[w.heap.size + 1]? = some (.cells #[.int .i64 0] 24) := by rw [Below.heap_setCell _ _ _ _ (by simp)]; exact HP.out.r1
            rw [block_set hk 0 _]; rfl, (HP.out.below.setCell (by simp) _).setCell (by simp) _⟩
        | cons q st =>
          have HS := Lib.hid (HSN.out.trans (step_cons q st))
          have HPOP := Lib.hid (own_pop HOWN.out)
          have hcap : ((q :: st).length : Int) ≤ (vc : Int) := by have := HPOP.out.2.1; omega
          have hcap2 : (vc : Int) ≤ 9223372036854775807 := by have := HPOP.out.2.2; unfold maxLen at this; omega
          simp only [List.length_cons] at d hcap
          have hne : (((st.length + 1 : Nat) : Int) == 0) = false := by simp; omega
          clear hdot
          gi_wp2
          exact ⟨(KeepsOthers.setCell _ _ _).from _, box3_set _ _, ⟨st, HS.out, by simp at hsl ⊢; omega, HP.out.put HPOP.out.1⟩⟩
      · have hn3 : (p == [46, 46]) = false := beq_eq_false_iff_ne.2 hdd
        have HS := Lib.hid (HSN.out.trans (step_in st hdot hdd))
        obtain ⟨va', vc', w5, hrun, hb5, hP5, hK5, hbx5⟩ := parts_app HP.out HBOX.out HOWN.out p (by have := splitS_len 47 s.data.toList; rw [← size_eq] at this; omega)
        have HRUN := Lib.hid hrun
        have HP5 := Lib.hid hP5
        have HK5 := Lib.hid hK5
        have HX5 := Lib.hid hbx5
        have d5 := cell_of_block' hb5 0
        have f5 := free_of_block hb5 0
        simp at d5
        clear hrun hP5 hK5 hbx5 hb5
        gi_wp2_with (gi_at_builtin; refine wpListIn_append_run rfl _ _ 38 rfl _ _ rfl rfl _ _ rfl HRUN.out ?_)
        exact ⟨HK5.out.from _, HX5.out, ⟨p :: st, HS.out, by simp; omega, HP5.out⟩⟩
  case done =>
    rintro D ys W hD hys ⟨st, hst, hsl, hP⟩ hK
    obtain ⟨va, vc, hb, ho⟩ := hP.box
    have hw : weight st.reverse ≤ s.size + 1 := by
      have h1 := fold_weight _ [] st hst
      rw [hys, splitS_weight, ← size_eq] at h1
      rw [weight_rev]; simp [weight] at h1 ⊢; omega
    have hjl := joinS_len 47 st.reverse
    have hT := clean_done hys hst
    have hJ := join_any st.reverse va vc W (by
      rcases own_slice ho with ⟨_, h0, _⟩ | ⟨g, cap, hv, _, hg, hn, _, hrow⟩
      · left; rw [List.length_eq_zero_iff.1 h0]; rfl
      · right; injection hv with e1 e2 e3; subst e3; exact ⟨g, e1, hg, hrow, by simpa using hn⟩) (by omega)
    rw [List.length_reverse] at hJ
    have hV := fun W1 (h : Env W1) => valid_any ⟨(Pn.joinS 47 st.reverse).toArray⟩ W1 (by show (Pn.joinS 47 st.reverse).length < 4294967281; omega) h
    have d := cell_of_block' hb 0
    simp at d
    have HJ := Lib.hid hJ
    have HP := Lib.hid hP
    have HK := Lib.hid hK
    rw [show (⟨(Pn.joinS 47 st.reverse).toArray⟩ : ByteArray).data.toList = Pn.joinS 47 st.reverse from rfl] at hV
    clear hJ hP hK hb ho hys hst hw hjl
    cases hval : Pn.validP (Pn.joinS 47 st.reverse)
    all_goals rw [hval] at hV hT
    all_goals have HV := Lib.hid hV
    all_goals have HT := Lib.hid hT
    all_goals clear hV hT hval
    all_goals go_wp2_with fail
    all_goals refine HJ.out.mono ?_
    all_goals rintro e w2 ⟨rfl, hb2⟩
    all_goals have HB2 := Lib.hid hb2
    all_goals clear hb2
    all_goals go_wp2_with fail
    all_goals refine (HV.out w2 (HE.out.below (below_then HP.out.below HB2.out))).mono ?_
    all_goals rintro e w3 ⟨rfl, hb3⟩
    all_goals have HB3 := Lib.hid (below_then HP.out.below (below_then HB2.out hb3))
    all_goals have hbb := below_then HB2.out hb3
    all_goals have HR0 := Lib.hid ((hbb.block _ (lt_of_block HP.out.r0)).trans HP.out.r0)
    all_goals have HR1 := Lib.hid ((hbb.block _ (lt_of_block HP.out.r1)).trans HP.out.r1)
    all_goals have HK3 := Lib.hid ((hbb.block _ (Array.getElem?_eq_some_iff.1 HK.out).1).trans HK.out)
    all_goals have e0 := cell_of_block' HR0.out 0
    all_goals have e1 := cell_of_block' HR1.out 0
    all_goals have g0 := free_of_block HR0.out 0
    all_goals have g1 := free_of_block HR1.out 0
    all_goals simp at e0 e1
    all_goals clear hb3 hbb
    all_goals go_wp2_with fail
    · skip
      have hK' := ((KeepsOthers.setCell w3 ⟨w.heap.size, 0, none⟩ (.string ⟨#[]⟩)).trans (KeepsOthers.setCell _ ⟨w.heap.size + 1, 0, none⟩ (.int .i64 1))).same D _ HK3.out rfl
      refine ⟨by simp, .inl ⟨_, _, rfl, run_takeDeferred hK', ?_⟩⟩
      have k0 := cell_kept (set2_0 (v := .string ⟨#[]⟩) (v' := .int .i64 1) HR0.out) (grownBy_putObj' _ D (.deferred none)) (fun r e => by cases e; exact ⟨_, hK', rfl⟩)
      have k1 := cell_kept (set2_1 (v := .string ⟨#[]⟩) (v' := .int .i64 1) HR1.out) (grownBy_putObj' _ D (.deferred none)) (fun r e => by cases e; exact ⟨_, hK', rfl⟩)
      refine ⟨.tuple #[.string ⟨#[]⟩, .int .i64 1], ?_, ⟨by rw [HT.out]; simp, ((HB3.out.setCell (p := ⟨w.heap.size, 0, none⟩) (Nat.le_refl _) _).setCell (p := ⟨w.heap.size + 1, 0, none⟩) (by simp) _).trans (belowK_b (w := w) (Nat.le_refl _) _ D _ _ (by omega) hK' rfl rfl)⟩⟩
      simp [results, Tryd.results26, go_sem, k0, k1]
    · skip
      have hK' := ((KeepsOthers.setCell w3 ⟨w.heap.size, 0, none⟩ (S (Pn.joinS 47 st.reverse))).trans (KeepsOthers.setCell _ ⟨w.heap.size + 1, 0, none⟩ (.int .i64 0))).same D _ HK3.out rfl
      refine ⟨by simp, .inl ⟨_, _, rfl, run_takeDeferred hK', ?_⟩⟩
      have k0 := cell_kept (set2_0 (v := S (Pn.joinS 47 st.reverse)) (v' := .int .i64 0) HR0.out) (grownBy_putObj' _ D (.deferred none)) (fun r e => by cases e; exact ⟨_, hK', rfl⟩)
      have k1 := cell_kept (set2_1 (v := S (Pn.joinS 47 st.reverse)) (v' := .int .i64 0) HR1.out) (grownBy_putObj' _ D (.deferred none)) (fun r e => by cases e; exact ⟨_, hK', rfl⟩)
      refine ⟨.tuple #[S (Pn.joinS 47 st.reverse), .int .i64 0], ?_, ⟨by rw [HT.out]; simp, ((HB3.out.setCell (p := ⟨w.heap.size, 0, none⟩) (Nat.le_refl _) _).setCell (p := ⟨w.heap.size + 1, 0, none⟩) (by simp) _).trans (belowK_b (w := w) (Nat.le_refl _) _ D _ _ (by omega) hK' rfl rfl)⟩⟩
      simp [results, Tryd.results26, go_sem, k0, k1]
  case stop =>
    rintro D c pre W hD ⟨xs, hxs, hpre⟩ ⟨rfl, hfold, hb0, hb1, hB2⟩ hK
    have hc0 := cell_of_block' hb0 0
    have hc1 := cell_of_block' hb1 0
    have HK := Lib.hid hK
    have HBB := Lib.hid hB2
    have HIG := Lib.hid (clean_none hxs hpre hfold)
    clear hK hB2 hxs hpre hfold hb0 hb1
    gi_wp2
    refine ⟨by simp, .inl ⟨_, _, rfl, run_takeDeferred HK.out, ?_⟩⟩
    have k0 := cell_kept hc0 (grownBy_putObj' _ D (.deferred none)) (fun r e => by cases e; exact ⟨_, HK.out, rfl⟩)
    have k1 := cell_kept hc1 (grownBy_putObj' _ D (.deferred none)) (fun r e => by cases e; exact ⟨_, HK.out, rfl⟩)
    refine ⟨.tuple #[.string ⟨#[]⟩, .int .i64 1], ?_, ⟨by unfold cleanTop; rw [HIG.out], HBB.out.trans (belowK_b (w := w) (Nat.le_refl _) W D _ _ (by omega) HK.out rfl rfl)⟩⟩
    simp [results, Tryd.results26, go_sem, k0, k1]

end Go.Proofs.YtdnbmkfmckppaaaDoor
