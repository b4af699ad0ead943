/-
  The walk of pathname.Parse.
-/
import Derived.Test.YtdnbmkfmckppaaaDoorRule
namespace Go.Proofs.YtdnbmkfmckppaaaDoor
open Go.RowKit Go.Lib

def ruleCells (l : List Pn.Rule) : List Value := l.flatMap fun x => [S x.pattern, .bool x.keep, .bool x.dir, .bool x.rooted]
theorem ruleCells_len (l : List Pn.Rule) : (ruleCells l).length = l.length * 4 := by
  induction l with
  | nil => rfl
  | cons x r ih => simp only [ruleCells, List.flatMap_cons, List.length_append] at *; rw [ih]; simp; omega
theorem ruleCells_append (a b : List Pn.Rule) : ruleCells (a ++ b) = ruleCells a ++ ruleCells b := by simp [ruleCells]
theorem ruleCells_get (l : List Pn.Rule) (i : Nat) (h : i < l.length) : (ruleCells l)[i * 4]? = some (S l[i].pattern) ∧ (ruleCells l)[i * 4 + 1]? = some (.bool l[i].keep) ∧ (ruleCells l)[i * 4 + 2]? = some (.bool l[i].dir) ∧ (ruleCells l)[i * 4 + 3]? = some (.bool l[i].rooted) := by
  have hs : l = l.take i ++ l[i] :: l.drop (i + 1) := by simp
  generalize l[i] = x at *
  have hlen : (l.take i).length = i := by simp; omega
  have hl : (ruleCells (l.take i)).length = i * 4 := by rw [ruleCells_len, hlen]
  have e : ruleCells l = ruleCells (l.take i) ++ ([S x.pattern, .bool x.keep, .bool x.dir, .bool x.rooted] ++ ruleCells (l.drop (i + 1))) := by
    conv => lhs; rw [hs]
    rw [ruleCells_append]; simp [ruleCells]
  rw [e]
  refine ⟨?_, ?_, ?_, ?_⟩ <;> rw [List.getElem?_append_right (by omega)]
  · rw [show i * 4 - (ruleCells (l.take i)).length = 0 by omega]; rfl
  · rw [show i * 4 + 1 - (ruleCells (l.take i)).length = 1 by omega]; rfl
  · rw [show i * 4 + 2 - (ruleCells (l.take i)).length = 2 by omega]; rfl
  · rw [show i * 4 + 3 - (ruleCells (l.take i)).length = 3 by omega]; rfl

/-- Rules in memory that a call made. -/
abbrev RulesMem (w : World) (base : Nat) (v : Value) (l : List Pn.Rule) : Prop := w.ownsRow base 36 4 v l.length (ruleCells l)

theorem rule_info : (Tryd.prog.info? 36).map (fun i => (i.zero, i.size, i.bytes)) = some (some (.agg #[.string ⟨#[]⟩, .bool false, .bool false, .bool false]), 4, 24) := by kernel_rfl

/-- The append of one rule. -/
theorem rules_app {w w2 : World} {base : Nat} {va : Option Addr} {vc : Nat} {l : List Pn.Rule} (hm : RulesMem w2 base (.slice va l.length vc) l) (hB : Below w.heap.size w w2) (hb : w.heap.size ≤ base) (hb2 : base ≤ w2.heap.size) (x : Pn.Rule) (hl : l.length + 1 ≤ 4294967281) :
    ∃ va' vc' w5, (Builtin.append_ #[29, 29] 29 #[.slice va l.length vc, .slice (some ⟨w2.heap.size, 0, none⟩) 1 1]).run Tryd.prog (w2.alloc (.cells [S x.pattern, .bool x.keep, .bool x.dir, .bool x.rooted].toArray 36)) = .ok (.slice va' (l.length + 1) vc') w5 ∧
      RulesMem w5 base (.slice va' (l.length + 1) vc') (l ++ [x]) ∧ Below w.heap.size w w5 ∧ ∀ (b : Nat) (cs : Array Value) (t : TypeId) (fr : Nat × Nat), w2.heap[b]? = some (Obj.cells cs t fr) → t ≠ 36 → w5.heap[b]? = some (Obj.cells cs t fr) := by
  obtain ⟨i0, hi, hz0, hz1, hz2⟩ := info_parts rule_info
  obtain ⟨v', w5, hrun, hown5, hgrow5, hnn⟩ := append_one (t := 29) Tryd.underlying29 hi hz0 hz1 hz2 rfl (by decide) w2 (.slice va l.length vc) l.length (ruleCells l) hm
    [S x.pattern, .bool x.keep, .bool x.dir, .bool x.rooted] rfl (by intro u hu; simp at hu; rcases hu with rfl | rfl | rfl | rfl <;> rfl) (by unfold maxLen; omega) (by omega) (by omega)
  obtain ⟨va', vc', hv'⟩ := own_form' hown5
  subst hv'
  have hW4 : Below w2.heap.size w2 (w2.alloc (.cells [S x.pattern, .bool x.keep, .bool x.dir, .bool x.rooted].toArray 36)) := (Below.refl _ _).alloc (Nat.le_refl _) _
  refine ⟨va', vc', w5, hrun, ?_, ?_, fun b cs t fr hb ht => ?_⟩
  · unfold RulesMem
    rw [ruleCells_append]
    simpa [ruleCells] using hown5
  · have hB4 := below_then hB hW4
    exact ⟨hgrow5.os.trans hB4.os, hgrow5.tape.trans hB4.tape, hgrow5.output.trans hB4.output, Nat.le_trans hB4.size hgrow5.size, fun i hi => (hgrow5.block i (Nat.lt_of_lt_of_le hi hB4.size) (fun e => by have := (hm.lt _ e.symm).1; omega)).trans (hB4.block i hi)⟩
  · have hb4 := (hW4.block b (lt_of_block hb)).trans hb
    rw [hgrow5.block b (lt_of_block hb4) (fun e => by rcases own_ne hm hb ht with h | h; (rw [h] at e; cases e); exact h e.symm)]
    exact hb4

/-- The loop of Parse. -/
def ParseRel (w : World) (lines : List Pn.B) (RES : List Pn.Rule ⊕ (Nat × Int)) (i : Nat) (out : Value) (wr : World) : Prop :=
  ∃ (va : Option Addr) (vc : Nat) (l : List Pn.Rule), out = .slice va l.length vc ∧ l.length ≤ 256 ∧ RulesMem wr w.heap.size (.slice va l.length vc) l ∧ Below w.heap.size w wr ∧
    wr.heap[w.heap.size]? = some (.cells (lines.map S).toArray 9) ∧ Pn.parseGo l i (lines.drop i) = RES

def ParseOk (s : ByteArray) (w : World) (e : Ending) (w' : World) : Prop :=
  Below w.heap.size w w' ∧ ∃ va vc, e = .returned (.tuple #[.slice va (Pn.parseP s.data.toList).1.length vc, .int .i64 ((Pn.parseP s.data.toList).2.1 : Nat), .int .i64 (Pn.parseP s.data.toList).2.2]) ∧ RulesMem w' w.heap.size (.slice va (Pn.parseP s.data.toList).1.length vc) (Pn.parseP s.data.toList).1

theorem parse_step {lines : List Pn.B} {l : List Pn.Rule} {i : Nat} {p : Pn.B} (hi : i < lines.length) (hp : lines[i] = p) :
    Pn.parseGo l i (lines.drop i) = if p = [] ∨ p.head? = some 35 then Pn.parseGo l (i + 1) (lines.drop (i + 1)) else if !(Pn.ruleOf p).validP then .inr (i + 1, 3) else if l.length = 256 then .inr (i + 1, 2) else Pn.parseGo (l ++ [Pn.ruleOf p]) (i + 1) (lines.drop (i + 1)) := by
  rw [List.drop_eq_getElem_cons hi, hp]; rfl

theorem parse_nil {lines : List Pn.B} {l : List Pn.Rule} {i : Nat} (hi : i < lines.length) (hp : lines[i] = []) : Pn.parseGo l i (lines.drop i) = Pn.parseGo l (i + 1) (lines.drop (i + 1)) := by
  rw [parse_step hi hp, if_pos (Or.inl rfl)]
theorem parse_note {lines : List Pn.B} {l : List Pn.Rule} {i : Nat} {t : Pn.B} (hi : i < lines.length) (hp : lines[i] = 35 :: t) : Pn.parseGo l i (lines.drop i) = Pn.parseGo l (i + 1) (lines.drop (i + 1)) := by
  rw [parse_step hi hp, if_pos (by simp)]
theorem parse_bad {lines : List Pn.B} {l : List Pn.Rule} {i : Nat} {b : UInt8} {t : Pn.B} (hi : i < lines.length) (hp : lines[i] = b :: t) (hb : b ≠ 35) (hv : (Pn.ruleOf (b :: t)).validP = false) : Pn.parseGo l i (lines.drop i) = .inr (i + 1, 3) := by
  rw [parse_step hi hp, if_neg (by simp [hb]), hv]; rfl
theorem parse_full {lines : List Pn.B} {l : List Pn.Rule} {i : Nat} {b : UInt8} {t : Pn.B} (hi : i < lines.length) (hp : lines[i] = b :: t) (hb : b ≠ 35) (hv : (Pn.ruleOf (b :: t)).validP = true) (hl : l.length = 256) : Pn.parseGo l i (lines.drop i) = .inr (i + 1, 2) := by
  rw [parse_step hi hp, if_neg (by simp [hb]), hv, if_pos hl]; rfl
theorem parse_more {lines : List Pn.B} {l : List Pn.Rule} {i : Nat} {b : UInt8} {t : Pn.B} (hi : i < lines.length) (hp : lines[i] = b :: t) (hb : b ≠ 35) (hv : (Pn.ruleOf (b :: t)).validP = true) (hl : l.length ≠ 256) : Pn.parseGo l i (lines.drop i) = Pn.parseGo (l ++ [Pn.ruleOf (b :: t)]) (i + 1) (lines.drop (i + 1)) := by
  rw [parse_step hi hp, if_neg (by simp [hb]), hv, if_neg hl]; rfl

theorem ruleOf_len (l : Pn.B) : (Pn.ruleOf l).pattern.length ≤ l.length := by
  obtain ⟨k1, l1, r1, l2, d, l3, _, _, _, _, _, _, hx, _, _, n3⟩ := ruleOf_parts l
  rw [hx]; exact n3

set_option maxHeartbeats 1000000 in
set_option maxRecDepth 100000 in
theorem parse_any (s : ByteArray) (w : World) (hs : s.size < 4294967280) (hE : Env w) : Calls Tryd.prog 14 #[.string s] w (ParseOk s w) := by
  by_cases hbig : 65536 < s.size
  · have hP : Pn.parseP s.data.toList = ([], 0, 2) := by unfold Pn.parseP; rw [← size_eq, if_pos hbig]
    have HP := Lib.hid hP
    have hz : (65536 : Int) < (s.size : Int) := by omega
    clear hP hbig hE
    go_enter Tryd.func14, Tryd.ntmps14
    go_wp2
    refine bodyPost_ret (v := .tuple #[.slice none 0 0, .int .i64 0, .int .i64 2]) (by simp [results, Tryd.results14, go_sem]) rfl ?_
    exact ⟨Below.refl _ _, none, 0, by rw [HP.out]; rfl, by rw [HP.out]; exact World.ownsRow_nil _ _ _ _⟩
  · have hz : ¬ (65536 : Int) < (s.size : Int) := by omega
    have hlen := splitS_len 10 s.data.toList
    rw [← size_eq] at hlen
    have HPART := Lib.hid fun c (h : c ∈ Pn.splitS 10 s.data.toList) => show c.length ≤ 65536 from by have := splitS_part h; rw [← size_eq] at this; omega
    have hP : ∀ RES, Pn.parseGo [] 0 (Pn.splitS 10 s.data.toList) = RES → Pn.parseP s.data.toList = match RES with | .inl l => (l, 0, 0) | .inr (n, e) => ([], n, e) := by
      intro RES h
      unfold Pn.parseP; rw [← size_eq, if_neg hbig, h]; rfl
    have HS := Lib.hid (split_any s 10 w (by omega) hE)
    have HROW := Lib.hid (heap_alloc_new w (pieces 10 s))
    have hpc : pieces 10 s = .cells ((Pn.splitS 10 s.data.toList).map S).toArray 9 := rfl
    generalize Pn.splitS 10 s.data.toList = lines at *
    rw [hpc] at HROW HS
    obtain ⟨RES, hR⟩ : ∃ RES, Pn.parseGo [] 0 lines = RES := ⟨_, rfl⟩
    have HP := Lib.hid (hP RES hR)
    have HR := Lib.hid hR
    have HE := Lib.hid hE
    clear hP hR hpc hE hbig
    go_enter Tryd.func14, Tryd.ntmps14
    go_wp2_with fail
    refine HS.out.mono ?_
    rintro e w' ⟨rfl, hw⟩
    rw [hw]; clear hw
    go_wp2_with fail
    go_loopg [5, 6, 7, 8, 9, 16] lines.length (fun gg out _ _ _ _ iv wr => ∃ i : Nat, iv = .int .i64 i ∧ i ≤ lines.length ∧ lines.length - i ≤ gg ∧ ParseRel w lines RES i out wr)
    case atStart =>
      exact ⟨0, rfl, Nat.zero_le _, by omega, none, 0, [], rfl, by simp, World.ownsRow_nil _ _ _ _, (Below.refl _ _).alloc (Nat.le_refl _) _, HROW.out, by rw [List.drop_zero]; exact HR.out⟩
    case round =>
      obtain ⟨i, rfl, hi, hgg, va, vc, l, rfl, hl256, hm, hB, hrow, hgo⟩ := hrel
      have HM := Lib.hid hm
      have HB := Lib.hid hB
      have HROW1 := Lib.hid hrow
      clear hm hB hrow
      by_cases hl : i < lines.length
      · have hlz : (i : Int) < (lines.length : Int) := by omega
        obtain ⟨p, hp⟩ : ∃ p, lines[i] = p := ⟨_, rfl⟩
        have hcell : wr.cell? ⟨w.heap.size, i, none⟩ = some (S p) := by
          rw [cell_of_block' HROW1.out i]; simp [hl, hp]
        have hps := HPART.out p (by rw [← hp]; exact List.getElem_mem hl)
        have HE1 := Lib.hid (HE.out.below HB.out)
        cases p with
        | nil =>
          rw [parse_nil hl hp] at hgo
          have HGO := Lib.hid hgo
          clear hgo hp
          go_wp2
          go_roundg (lines.length - (i + 1))
          case measure => omega
          case rel => exact ⟨i + 1, by go_num, by omega, Nat.le_refl _, va, vc, l, rfl, hl256, HM.out, HB.out, HROW1.out, HGO.out⟩
        | cons b t =>
          by_cases hb : b = 35
          · subst hb
            rw [parse_note hl hp] at hgo
            have HGO := Lib.hid hgo
            have e0 : (⟨(35 :: t).toArray⟩ : ByteArray)[0]'(by simp [ByteArray.size]) = 35 := rfl
            clear hgo hp
            go_wp2
            go_roundg (lines.length - (i + 1))
            case measure => omega
            case rel => exact ⟨i + 1, by go_num, by omega, Nat.le_refl _, va, vc, l, rfl, hl256, HM.out, HB.out, HROW1.out, HGO.out⟩
          · have h35 : (((⟨(b :: t).toArray⟩ : ByteArray)[0]'(by simp [ByteArray.size])).toNat : Int) ≠ 35 := by
              intro e
              exact hb (UInt8.toNat_inj.1 (show b.toNat = 35 by have : ((b.toNat : Nat) : Int) = 35 := e; omega))
            have HRU := Lib.hid (rule_any ⟨(b :: t).toArray⟩ wr (by simp [ByteArray.size]; simp at hps; omega) HE1.out)
            have hrl := ruleOf_len (b :: t)
            have hdl : (⟨(b :: t).toArray⟩ : ByteArray).data.toList = b :: t := rfl
            rw [hdl] at HRU
            cases hv : (Pn.ruleOf (b :: t)).validP with
            | false =>
              rw [parse_bad hl hp hb hv] at hgo
              rw [hv] at HRU
              have HGO := Lib.hid hgo
              clear hgo hp hb hv hdl hrl
              go_wp2_with fail
              refine HRU.out.mono ?_
              rintro e w2 ⟨rfl, hb2⟩
              have HB2 := Lib.hid (below_then HB.out hb2)
              clear hb2
              go_wp2_with fail
              refine bodyPost_ret (v := .tuple #[.slice none 0 0, .int .i64 ((i : Int) + 1), .int .i64 3]) (by simp [results, Tryd.results14, go_sem]) rfl ?_
              have hp2 := HP.out
              rw [← HGO.out] at hp2
              exact ⟨HB2.out.alloc HB2.out.size _, none, 0, by rw [hp2]; simp, by rw [hp2]; exact World.ownsRow_nil _ _ _ _⟩
            | true =>
              rw [hv] at HRU
              by_cases h256 : l.length = 256
              · rw [parse_full hl hp hb hv h256] at hgo
                have HGO := Lib.hid hgo
                have h256z : ((l.length : Int) == 256) = true := by simp; omega
                clear hgo hp hb hv hdl hrl
                go_wp2_with fail
                refine HRU.out.mono ?_
                rintro e w2 ⟨rfl, hb2⟩
                have HB2 := Lib.hid (below_then HB.out hb2)
                clear hb2
                go_wp2_with fail
                refine bodyPost_ret (v := .tuple #[.slice none 0 0, .int .i64 ((i : Int) + 1), .int .i64 2]) (by simp [results, Tryd.results14, go_sem]) rfl ?_
                have hp2 := HP.out
                rw [← HGO.out] at hp2
                exact ⟨HB2.out.alloc HB2.out.size _, none, 0, by rw [hp2]; simp, by rw [hp2]; exact World.ownsRow_nil _ _ _ _⟩
              · rw [parse_more hl hp hb hv h256] at hgo
                have HGO := Lib.hid hgo
                have h256z : ((l.length : Int) == 256) = false := by simp; omega
                obtain ⟨x, hx⟩ : ∃ x, Pn.ruleOf (b :: t) = x := ⟨_, rfl⟩
                rw [hx] at HRU HGO
                clear hgo hp hb hv hdl hrl hx
                go_wp2_with fail
                refine HRU.out.mono ?_
                rintro e w2 ⟨rfl, hb2⟩
                have hbA : Below w2.heap.size w2 (w2.alloc (.cells #[S x.pattern, .bool x.keep, .bool x.dir, .bool x.rooted] 36)) := (Below.refl _ _).alloc (Nat.le_refl _) _
                have hbAll := below_then (below_then HB.out hb2) hbA
                obtain ⟨va', vc', w5, hrun, hm5, hB5, hk5⟩ := rules_app ((HM.out.kept (grown_below hb2 none) (by cases (Value.slice va l.length vc).ownBlock <;> simp)).kept (grown_below hbA none) (by cases (Value.slice va l.length vc).ownBlock <;> simp)) hbAll (Nat.le_refl _) hbAll.size x (by omega)
                have HM5 := Lib.hid hm5
                have HB5 := Lib.hid hB5
                have HK5 := Lib.hid (hk5 _ _ _ _ ((hbA.block _ (Nat.lt_of_lt_of_le (lt_of_block HROW1.out) hb2.size)).trans ((hb2.block _ (lt_of_block HROW1.out)).trans HROW1.out)) (by decide))
                rw [World.size_alloc] at hrun
                have HRUN := Lib.hid hrun
                clear hrun hm5 hB5 hk5 hb2 hbA hbAll
                go_wp2_with (at_builtin; refine wpList_append_run rfl _ _ 29 rfl _ _ rfl rfl _ _ rfl HRUN.out ?_)
                go_roundg (lines.length - (i + 1))
                case measure => omega
                case rel => exact ⟨i + 1, by go_num, by omega, Nat.le_refl _, va', vc', l ++ [x], by simp, by simp; omega, by simpa using HM5.out, HB5.out, HK5.out, HGO.out⟩
      · have hlz : ¬ (i : Int) < (lines.length : Int) := by omega
        rw [List.drop_of_length_le (by omega), Pn.parseGo] at hgo
        have HGO := Lib.hid hgo
        clear hgo
        go_wp2
        refine bodyPost_ret (v := .tuple #[.slice va l.length vc, .int .i64 0, .int .i64 0]) (by simp [results, Tryd.results14, go_sem]) rfl ?_
        have hp2 := HP.out
        rw [← HGO.out] at hp2
        exact ⟨HB.out, va, vc, by rw [hp2]; rfl, by rw [hp2]; exact HM.out⟩

end Go.Proofs.YtdnbmkfmckppaaaDoor
