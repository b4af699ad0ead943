/-
  The walk of pathname's scanner.class.
-/
import Derived.Test.YtdnbmkfmckppaaaDoorScan
import Derived.Maps.AppendAt
namespace Go.Proofs.YtdnbmkfmckppaaaDoor
open Go.RowKit Go.Lib

/-- An append of one element, laid in a block of its own, to a slice of the call's own. -/
theorem append_one {base : Nat} {t e : TypeId} {i : TypeInfo} {z : Value} {size bytes : Nat} (ht : Tryd.prog.underlying t = some (.slice e)) (hi : Tryd.prog.info? e = some i) (hz : i.zero = some z)
    (hsize : i.size = size) (hby : i.bytes = bytes) (hzs : z.cells.size = size) (hsz : 0 < size) (w : World) (v : Value) (n : Nat) (xs : List Value) (hown : w.ownsRow base e size v n xs)
    (news : List Value) (hl : news.length = size) (h1 : ∀ u ∈ news, u.oneCell' = true) (h63 : n + 1 ≤ maxLen) (hbytes : (n + 1) * bytes ≤ 140737488355328) (hbase : base ≤ w.heap.size) :
    ∃ v' w', (Builtin.append_ #[t, t] t #[v, .slice (some ⟨w.heap.size, 0, none⟩) 1 1]).run Tryd.prog (w.alloc (.cells news.toArray e)) = .ok v' w' ∧ w'.ownsRow base e size v' (n + 1) (xs ++ news) ∧
      (w.alloc (.cells news.toArray e)).grownBy w' v.ownBlock ∧ v' ≠ .slice none 0 0 := by
  obtain ⟨v', w', hr, h2, h3, h4⟩ := run_append_own (P := Tryd.prog) (w.alloc (.cells news.toArray e)) base t t e i z size bytes ht hi hz hsize hby hzs hsz v n xs (hown.alloc _)
    ⟨w.heap.size, 0, none⟩ 1 1 news (by omega) (fun j u hu => by
      have hj : j < news.length := by
        rcases Nat.lt_or_ge j news.length with h | h
        · exact h
        · rw [List.getElem?_eq_none h] at hu; cases hu
      have := rowAt_alloc w news e j hj
      rw [Nat.zero_add] at this
      have ha : (⟨w.heap.size, 0, none⟩ : Addr).add j = ⟨w.heap.size, j, none⟩ := by unfold Addr.add; split <;> simp_all
      rw [ha, this]
      rw [List.getElem?_eq_getElem hj] at hu; exact hu) h1 h63 hbytes (by simp; omega)
  exact ⟨v', w', hr, h2, h3, fun e => by have := (h4.1 e).2; omega⟩

/-- The walk's law at an append whose run is known. -/
theorem wpList_append_run {P : Program} {w : World} {ops : Array Oper} {rest : List Oper} {o : Oper} {a : Act} {Q : Exit → Act → World → Prop} (hgd : o.guard = none) (s x : Operand) (t : TypeId)
    (ho : o.op = .call { callee := .builtin .append, args := #[s, x], argTypes := #[t, t] }) (vs vx : Value) (hs : a.eval s = vs) (hx : a.eval x = vx) (v' : Value) (w' : World) (hty : o.type = t)
    (hr : (Builtin.append_ #[t, t] t #[vs, vx]).run P w = .ok v' w') (h : wpList P ops Q rest (a.put o.dst v') w') : wpList P ops Q (o :: rest) a w :=
  wpList_plain hgd fun K hK => by
    unfold Oper.wp execOp
    simp only [ho, resolve, invoke, builtin, Sem.run_bind, Sem.run_pure, Result.andThen_ok, List.map_toArray, List.map_cons, List.map_nil, hs, hx, hty, hr]
    exact hK _ _ h

def spanCells (sp : List (Nat × Nat)) : List Value := (sp.map fun s => [Value.int .i32 (s.1 : Int), Value.int .i32 (s.2 : Int)]).flatten

theorem span_info : (Tryd.prog.info? 109).map (fun i => (i.zero, i.size, i.bytes)) = some (some (.agg #[.int .i32 0, .int .i32 0]), 2, 8) := by kernel_rfl

/-- A slice of n elements whose cells lie in a block from base on. -/
def SliceN (w : World) (base : Nat) (v : Value) (n : Nat) (cells : List Value) : Prop :=
  (v = .slice none 0 0 ∧ n = 0 ∧ cells = []) ∨ ∃ g cap, v = .slice (some ⟨g, 0, none⟩) n cap ∧ base ≤ g ∧ g < w.heap.size ∧ n ≤ cap ∧ n ≤ maxLen ∧ RowAt w g 0 cells

theorem SliceN.below {w w' : World} {base : Nat} {v : Value} {n : Nat} {cells : List Value} (h : SliceN w base v n cells) (hb : Below w.heap.size w w') : SliceN w' base v n cells := by
  rcases h with h | ⟨g, cap, h1, h2, h3, h4, h5, h6⟩
  · exact .inl h
  · exact .inr ⟨g, cap, h1, h2, Nat.lt_of_lt_of_le h3 hb.size, h4, h5, h6.below hb h3⟩

theorem SliceN.grown {w w' : World} {base : Nat} {v : Value} {n : Nat} {cells : List Value} {r : Option Nat} (h : SliceN w base v n cells) (hb : w.grownBy w' r) (hr : ∀ k, r = some k → k < base ∨ v.ownBlock ≠ some k) : SliceN w' base v n cells := by
  rcases h with h | ⟨g, cap, h1, h2, h3, h4, h5, h6⟩
  · exact .inl h
  · refine .inr ⟨g, cap, h1, h2, Nat.lt_of_lt_of_le h3 hb.size, h4, h5, h6.grown hb h3 (fun e => ?_)⟩
    rcases hr g e.symm with h | h
    · omega
    · exact h (by rw [h1]; rfl)

theorem SliceN.mono {w : World} {base base' : Nat} {v : Value} {n : Nat} {cells : List Value} (h : SliceN w base v n cells) (hb : base' ≤ base) : SliceN w base' v n cells := by
  rcases h with h | ⟨g, cap, h1, h2, h3, h4, h5, h6⟩
  · exact .inl h
  · exact .inr ⟨g, cap, h1, by omega, h3, h4, h5, h6⟩

theorem own_form {w : World} {base : Nat} {e : TypeId} {size : Nat} {v : Value} {n : Nat} {xs : List Value} (h : w.ownsRow base e size v n xs) : ∃ a c, v = .slice a n c := by
  rcases h.2 with ⟨rfl, rfl⟩ | ⟨g, cap, cur, rfl, _⟩
  · exact ⟨_, _, rfl⟩
  · exact ⟨_, _, rfl⟩

theorem own_slice {w : World} {base : Nat} {e : TypeId} {size : Nat} {v : Value} {n : Nat} {xs : List Value} (h : w.ownsRow base e size v n xs) : SliceN w base v n xs := by
  obtain ⟨hl, h⟩ := h
  rcases h with ⟨rfl, rfl⟩ | ⟨g, cap, cur, rfl, hb, hg, hn, hm, hc, htake⟩
  · exact .inl ⟨rfl, rfl, List.length_eq_zero_iff.1 (by omega)⟩
  · refine .inr ⟨g, cap, rfl, hb, lt_of_block hg, hn, by omega, ?_⟩
    intro i hi
    rw [Nat.zero_add, cell_of_block' hg i]
    have h1 := htake
    have : xs[i]? = cur[i]? := by
      rw [← h1, List.getElem?_take, if_pos (by omega)]; simp
    rw [← this, List.getElem?_eq_getElem hi]

def ClassOk (b R cap : Nat) (rs : List Nat) (k : Nat) (w : World) (e : Ending) (w' : World) : Prop :=
  ∃ (k' : Nat) (v : Value) (neg : Bool), e = .returned (.agg #[.bool false, .bool neg, v]) ∧ (∃ a n c, v = .slice a n c) ∧ Scan w' b R cap rs k' (Pn.classTop (rs.drop k)).isNone ∧ w.grownBy w' (some b) ∧ k ≤ k' ∧
    ∀ x u, Pn.classTop (rs.drop k) = some (x, u) → x.star = false ∧ x.neg = neg ∧ rs.drop k' = u ∧ w'.ownsRow w.heap.size 109 2 v x.spans.length (spanCells x.spans)

theorem own_mono {w : World} {base base' : Nat} {e : TypeId} {size : Nat} {v : Value} {n : Nat} {xs : List Value} (h : w.ownsRow base e size v n xs) (hb : base' ≤ base) : w.ownsRow base' e size v n xs := by
  refine ⟨h.1, ?_⟩
  rcases h.2 with h | ⟨g, cap, cur, h1, h2, h3⟩
  · exact .inl h
  · exact .inr ⟨g, cap, cur, h1, by omega, h3⟩

/-- What is owned lies in no block of another type. -/
theorem own_ne {w : World} {base : Nat} {e : TypeId} {size : Nat} {v : Value} {n : Nat} {xs : List Value} (h : w.ownsRow base e size v n xs) {b : Nat} {cs : Array Value} {t : TypeId} {fr : Nat × Nat} (hb : w.heap[b]? = some (.cells cs t fr)) (ht : t ≠ e) :
    v.ownBlock = none ∨ v.ownBlock ≠ some b := by
  rcases h.2 with ⟨rfl, _⟩ | ⟨g, cap, cur, rfl, _, hg, _⟩
  · exact .inl rfl
  · refine .inr (fun e => ?_)
    have : g = b := Option.some.inj e
    subst this
    rw [hg] at hb
    exact ht (by cases hb; rfl)

/-- Two owned slices of different types share no block. -/
theorem own_apart {w : World} {base1 base2 : Nat} {e1 e2 : TypeId} {s1 s2 : Nat} {v1 v2 : Value} {n1 n2 : Nat} {xs1 xs2 : List Value} (h1 : w.ownsRow base1 e1 s1 v1 n1 xs1) (h2 : w.ownsRow base2 e2 s2 v2 n2 xs2) (ht : e1 ≠ e2) :
    v1.ownBlock = none ∨ v1.ownBlock ≠ v2.ownBlock := by
  rcases h2.2 with ⟨rfl, _⟩ | ⟨g, cap, cur, rfl, _, hg, _⟩
  · cases h : v1.ownBlock with
    | none => exact .inl rfl
    | some j => exact .inr (by simp [Value.ownBlock])
  · exact own_ne h1 hg (fun e => ht e.symm)

theorem two_new {w : World} (o1 o2 : Obj) : ((w.alloc o1).alloc o2).heap[w.heap.size]? = some o1 ∧ ((w.alloc o1).alloc o2).heap[w.heap.size + 1]? = some o2 := by
  constructor
  · rw [Below.heap_alloc _ _ _ (by simp)]
    show (w.heap.push o1)[w.heap.size]? = _
    simp
  · have : (w.alloc o1).heap.size = w.heap.size + 1 := by simp
    show ((w.alloc o1).heap.push o2)[w.heap.size + 1]? = _
    rw [← this, Array.getElem?_push_size]

theorem Scan.kept {w w' : World} {b R cap : Nat} {rs : List Nat} {k : Nat} {bad : Bool} {r : Option Nat} (h : Scan w b R cap rs k bad) (hg : w.grownBy w' r) (h1 : some b ≠ r) (h2 : some R ≠ r) : Scan w' b R cap rs k bad :=
  ⟨by rw [hg.block b (lt_of_block h.block) h1]; exact h.block, h.row.grown hg h.lt h2, Nat.lt_of_lt_of_le h.lt hg.size, h.ne, h.le, h.small⟩

theorem grown_new {a b c : World} {r : Option Nat} {k : Nat} (h : a.grownBy b r) (hg : b.grownBy c (some k)) (hk : a.heap.size ≤ k) : a.grownBy c r :=
  ⟨hg.os.trans h.os, hg.tape.trans h.tape, hg.output.trans h.output, Nat.le_trans h.size hg.size, fun i hi hr => (hg.block i (Nat.lt_of_lt_of_le hi h.size) (fun e => by have := Option.some.inj e; omega)).trans (h.block i hi hr)⟩

theorem Scan.setBad {w : World} {b R cap : Nat} {rs : List Nat} {k : Nat} {bad : Bool} (h : Scan w b R cap rs k bad) (nb : Bool) : Scan (w.setCell ⟨b, 2, none⟩ (.bool nb)) b R cap rs k nb :=
  ⟨block_set h.block 2 _, h.row.grown (grown_setCell (grown_refl w (some b)) _) h.lt (fun e => h.ne (by cases e; rfl)), by simpa [World.setCell] using h.lt, h.ne, h.le, h.small⟩
theorem Scan.setAt {w : World} {b R cap : Nat} {rs : List Nat} {k : Nat} {bad : Bool} (h : Scan w b R cap rs k bad) (hk : k < rs.length) (q : Nat) : Scan ((w.drewN q).setCell ⟨b, 1, none⟩ (.int .i64 ((k : Int) + 1))) b R cap rs (k + 1) bad :=
  ⟨block_set (block_drewN h.block q) 1 _, h.row.grown (grown_setCell (grown_drewN (grown_refl w (some b)) q) _) h.lt (fun e => h.ne (by cases e; rfl)), by simpa [World.setCell] using h.lt, h.ne, by omega, h.small⟩

/-- The memory of class's loop. -/
structure ClassMem (w0 : World) (b R cap : Nat) (rs : List Nat) (neg : Bool) (k : Nat) (bad : Bool) (va : Option Addr) (vc : Nat) (sp : List (Nat × Nat)) (wr : World) : Prop where
  scan : Scan wr b R cap rs k bad
  xb : wr.heap[w0.heap.size + 1]? = some (.cells #[.bool false, .bool neg, .slice va sp.length vc] 106)
  rb : wr.heap[w0.heap.size]? = some (.cells #[.bool false, .bool false, .slice none 0 0] 106)
  own : wr.ownsRow (w0.heap.size + 2) 109 2 (.slice va sp.length vc) sp.length (spanCells sp)
  grown : w0.grownBy wr (some b)
  base : w0.heap.size + 2 ≤ wr.heap.size
  lt : b < w0.heap.size
  ltR : R < w0.heap.size

theorem ClassMem.kept {w0 : World} {b R cap : Nat} {rs : List Nat} {neg : Bool} {k : Nat} {bad : Bool} {va : Option Addr} {vc : Nat} {sp : List (Nat × Nat)} {wr w1 : World} {k1 : Nat} {bad1 : Bool}
    (h : ClassMem w0 b R cap rs neg k bad va vc sp wr) (hS : Scan w1 b R cap rs k1 bad1) (hg : wr.grownBy w1 (some b)) : ClassMem w0 b R cap rs neg k1 bad1 va vc sp w1 := by
  have hl := h.lt
  refine ⟨hS, ?_, ?_, h.own.kept hg ?_, grown_trans h.grown hg, Nat.le_trans h.base hg.size, hl, h.ltR⟩
  · rw [hg.block _ (lt_of_block h.xb) (fun e => by have := Option.some.inj e; omega)]; exact h.xb
  · rw [hg.block _ (lt_of_block h.rb) (fun e => by have := Option.some.inj e; omega)]; exact h.rb
  · rcases hv : (Value.slice va sp.length vc).ownBlock with _ | g
    · exact .inl rfl
    · refine .inr (fun e => ?_)
      have := (h.own.lt g hv).1
      have := Option.some.inj e; omega

/-- Behind the append and the store of a round. -/
theorem ClassMem.step {w0 : World} {b R cap : Nat} {rs : List Nat} {neg : Bool} {k : Nat} {bad : Bool} {va : Option Addr} {vc : Nat} {sp : List (Nat × Nat)} {w3 w' : World} (h : ClassMem w0 b R cap rs neg k bad va vc sp w3)
    (nb : Bool) (lo hi : Nat) (va' : Option Addr) (vc' : Nat)
    (hown : w'.ownsRow (w0.heap.size + 2) 109 2 (.slice va' (sp.length + 1) vc') (sp.length + 1) (spanCells sp ++ [.int .i32 (lo : Int), .int .i32 (hi : Int)]))
    (hgrow : ((w3.setCell ⟨b, 2, none⟩ (.bool nb)).alloc (.cells [Value.int .i32 (lo : Int), .int .i32 (hi : Int)].toArray 109)).grownBy w' (Value.slice va sp.length vc).ownBlock) :
    ClassMem w0 b R cap rs neg k nb va' vc' (sp ++ [(lo, hi)]) (w'.setCell ⟨w0.heap.size + 1, 2, none⟩ (.slice va' (sp.length + 1) vc')) := by
  have hl := h.lt
  have hlR := h.ltR
  have hb := h.base
  have ho : ∀ g, (Value.slice va sp.length vc).ownBlock = some g → w0.heap.size + 2 ≤ g := fun g hg => (h.own.lt g hg).1
  have ho' : ∀ g, (Value.slice va' (sp.length + 1) vc').ownBlock = some g → w0.heap.size + 2 ≤ g := fun g hg => (hown.lt g hg).1
  have hg1 : w3.grownBy ((w3.setCell ⟨b, 2, none⟩ (.bool nb)).alloc (.cells [Value.int .i32 (lo : Int), .int .i32 (hi : Int)].toArray 109)) (some b) :=
    grown_trans (grown_setCell (grown_refl w3 (some b)) _) (World.grownBy_alloc _ _ _)
  have hm1 := h.kept (((h.scan.setBad nb)).grown ((Below.refl _ _).alloc (Nat.le_refl _) _)) hg1
  generalize (w3.setCell ⟨b, 2, none⟩ (.bool nb)).alloc (.cells [Value.int .i32 (lo : Int), .int .i32 (hi : Int)].toArray 109) = w4 at *
  have hs := hgrow.size
  have hne : ∀ j, j < w0.heap.size + 2 → some j ≠ (Value.slice va sp.length vc).ownBlock := fun j hj e => by have := ho j e.symm; omega
  have hx : w'.heap[w0.heap.size + 1]? = some (.cells #[.bool false, .bool neg, .slice va sp.length vc] 106) := by
    rw [hgrow.block _ (lt_of_block hm1.xb) (hne _ (by omega))]; exact hm1.xb
  have hr : w'.heap[w0.heap.size]? = some (.cells #[.bool false, .bool false, .slice none 0 0] 106) := by
    rw [hgrow.block _ (lt_of_block hm1.rb) (hne _ (by omega))]; exact hm1.rb
  have hS := hm1.scan.kept hgrow (hne _ (by omega)) (hne _ (by omega))
  have hgs : w'.grownBy (w'.setCell ⟨w0.heap.size + 1, 2, none⟩ (.slice va' (sp.length + 1) vc')) (some (w0.heap.size + 1)) := grown_setCell (grown_refl _ _) _
  have hsize : (w'.setCell ⟨w0.heap.size + 1, 2, none⟩ (.slice va' (sp.length + 1) vc')).heap.size = w'.heap.size := by simp [World.setCell]
  refine ⟨hS.kept hgs (fun e => by have := Option.some.inj e; omega) (fun e => by have := Option.some.inj e; omega), ?_, ?_, ?_, ?_, ?_, hl, hlR⟩
  · have := block_set hx 2 (.slice va' (sp.length + 1) vc')
    simpa using this
  · rw [hgs.block _ (lt_of_block hr) (fun e => by have := Option.some.inj e; omega)]; exact hr
  · have := hown.kept hgs (by
      rcases hv : (Value.slice va' (sp.length + 1) vc').ownBlock with _ | g
      · exact .inl rfl
      · exact .inr (fun e => by have := ho' g hv; have := Option.some.inj e; omega))
    simpa [spanCells] using this
  · have h2 : w0.grownBy w' (some b) := ⟨hgrow.os.trans hm1.grown.os, hgrow.tape.trans hm1.grown.tape, hgrow.output.trans hm1.grown.output, Nat.le_trans hm1.grown.size hs, fun i hi hri => (hgrow.block i (Nat.lt_of_lt_of_le hi hm1.grown.size) (hne i (by omega))).trans (hm1.grown.block i hi hri)⟩
    exact grown_new h2 hgs (by omega)
  · rw [hsize]; have := hm1.base; omega

/-- What one round reads is what the plain function reads. -/
theorem span_read (rs : List Nat) (k k1 lo : Nat) (h1 : ∀ x u, Pn.elementP (rs.drop k) = some (x, u) → lo = x ∧ rs.drop k1 = u ∧ k < k1) :
    ((Pn.elementP (rs.drop k)).isNone = true → Pn.spanP (rs.drop k) = none) ∧
    ((rs.drop k1).head? ≠ some 45 → (Pn.elementP (rs.drop k)).isNone = false → Pn.spanP (rs.drop k) = some ((lo, lo), rs.drop k1)) ∧
    ((rs.drop k1).head? = some 45 → (Pn.elementP (rs.drop k)).isNone = false → ∀ k2 hi, (∀ x u, Pn.elementP (rs.drop (k1 + 1)) = some (x, u) → hi = x ∧ rs.drop k2 = u ∧ k1 + 1 < k2) →
      ((Pn.elementP (rs.drop (k1 + 1))).isNone = true → Pn.spanP (rs.drop k) = none) ∧ ((Pn.elementP (rs.drop (k1 + 1))).isNone = false → Pn.spanP (rs.drop k) = if hi < lo then none else some ((lo, hi), rs.drop k2))) := by
  have ht : (rs.drop k1).tail = rs.drop (k1 + 1) := by simp
  rcases hq : Pn.elementP (rs.drop k) with _ | ⟨x, u⟩
  · refine ⟨fun _ => by (unfold Pn.spanP; rw [hq]), fun _ h => by (cases h), fun _ h => by (cases h)⟩
  · obtain ⟨rfl, rfl, _⟩ := h1 x u hq
    refine ⟨fun h => by (cases h), fun hn _ => ?_, fun hh _ k2 hi h2 => ?_⟩
    · unfold Pn.spanP; rw [hq]; dsimp only; rw [if_neg hn]
    · rcases hq2 : Pn.elementP (rs.drop (k1 + 1)) with _ | ⟨y, v⟩
      · refine ⟨fun _ => ?_, fun h => by (cases h)⟩
        unfold Pn.spanP; rw [hq]; dsimp only; rw [if_pos hh, ht, hq2]
      · obtain ⟨rfl, rfl, _⟩ := h2 y v hq2
        refine ⟨fun h => by (cases h), fun _ => ?_⟩
        unfold Pn.spanP; rw [hq]; dsimp only; rw [if_pos hh, ht, hq2]

end Go.Proofs.YtdnbmkfmckppaaaDoor
