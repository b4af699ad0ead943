/-
  The walk of pathname.ignored: a range over slices.Backward.
-/
import Derived.Test.YtdnbmkfmckppaaaDoorBackward
import Derived.Deep.RegionHeld3
namespace Go.Proofs.YtdnbmkfmckppaaaDoor
open Go.RowKit Go.Lib Go.Shelf

attribute [local go_sem] Oper.semAt_some

theorem last_part (s : ByteArray) : ∃ k : Nat, k ≤ s.size ∧ lastIndexByte s 47 = (k : Int) - 1 ∧ (⟨(Pn.lastP s.data.toList).toArray⟩ : ByteArray) = s.extract k s.size := by
  have ext : ∀ k, (⟨(s.data.toList.drop k).toArray⟩ : ByteArray) = s.extract k s.size := by
    intro k
    apply ByteArray.ext
    apply Array.ext'
    rw [extract_data, List.take_of_length_le (by rw [List.length_drop, size_eq]; omega)]
  rcases Pn.last_slash s with ⟨h, hn, _⟩ | ⟨i, hi, h, hl, hn, _⟩
  · refine ⟨0, Nat.zero_le _, by rw [h]; rfl, ?_⟩
    rw [← ext 0, List.drop_zero]
    unfold Pn.lastP
    rw [Pn.splitS_none hn]; rfl
  · refine ⟨i + 1, by omega, by rw [h]; omega, ?_⟩
    rw [← ext (i + 1)]
    unfold Pn.lastP
    conv => lhs; rw [hl, Pn.splitS_append, Pn.splitS_none hn]
    simp

theorem ig_four (w : World) (A B C D : Obj) : ((((w.alloc A).alloc B).alloc C).alloc D).drew.heap[w.heap.size]? = some A ∧ ((((w.alloc A).alloc B).alloc C).alloc D).drew.heap[w.heap.size + 1]? = some B ∧ ((((w.alloc A).alloc B).alloc C).alloc D).drew.heap[w.heap.size + 2]? = some C ∧
    ((((w.alloc A).alloc B).alloc C).alloc D).drew.heap[w.heap.size + 3]? = some D ∧ Below w.heap.size w ((((w.alloc A).alloc B).alloc C).alloc D).drew ∧ ((((w.alloc A).alloc B).alloc C).alloc D).drew.heap.size = w.heap.size + 4 := by
  have e0 := heap_alloc_new w A
  have e1 := heap_alloc_new (w.alloc A) B
  have e2 := heap_alloc_new ((w.alloc A).alloc B) C
  have e3 := heap_alloc_new (((w.alloc A).alloc B).alloc C) D
  simp only [World.size_alloc] at e1 e2 e3
  have bA : Below w.heap.size w (w.alloc A) := (Below.refl _ _).alloc (Nat.le_refl _) _
  have bB : Below (w.alloc A).heap.size (w.alloc A) ((w.alloc A).alloc B) := (Below.refl _ _).alloc (Nat.le_refl _) _
  have bC : Below ((w.alloc A).alloc B).heap.size ((w.alloc A).alloc B) (((w.alloc A).alloc B).alloc C) := (Below.refl _ _).alloc (Nat.le_refl _) _
  have bD : Below (((w.alloc A).alloc B).alloc C).heap.size (((w.alloc A).alloc B).alloc C) ((((w.alloc A).alloc B).alloc C).alloc D) := (Below.refl _ _).alloc (Nat.le_refl _) _
  refine ⟨?_, ?_, ?_, ?_, ?_, by simp⟩
  · show ((((w.alloc A).alloc B).alloc C).alloc D).heap[w.heap.size]? = some A
    rw [bD.block _ (by simp <;> omega), bC.block _ (by simp <;> omega), bB.block _ (by simp)]; exact e0
  · show ((((w.alloc A).alloc B).alloc C).alloc D).heap[w.heap.size + 1]? = some B
    rw [bD.block _ (by simp <;> omega), bC.block _ (by simp <;> omega)]; exact e1
  · show ((((w.alloc A).alloc B).alloc C).alloc D).heap[w.heap.size + 2]? = some C
    rw [bD.block _ (by simp)]; exact e2
  · exact e3
  · exact (below_then bA (below_then bB (below_then bC bD))).drew

/-- The world ahead of the loop. -/
structure IgFacts (s : ByteArray) (dir : Bool) (nm : ByteArray) (w W0 : World) : Prop where
  b0 : W0.heap[w.heap.size]? = some (.cells #[.string s] 9)
  b1 : W0.heap[w.heap.size + 1]? = some (.cells #[.bool dir] 4)
  b2 : W0.heap[w.heap.size + 2]? = some (.cells #[.bool false] 4)
  b3 : W0.heap[w.heap.size + 3]? = some (.cells #[.string nm] 9)
  below : Below w.heap.size w W0
  size : W0.heap.size = w.heap.size + 4

/-- Between two rounds. -/
def IgI (s : ByteArray) (dir : Bool) (w1 : World) (pre : List (Nat × Rl)) (W : World) : Prop := (∀ p ∈ pre, p.2.val.applies s.data.toList dir = false) ∧ Below w1.heap.size w1 W
/-- A round has returned. -/
def IgX (s : ByteArray) (dir : Bool) (w : World) (c : Code) (pre : List (Nat × Rl)) (W : World) : Prop :=
  (c = .ret ∧ ∃ ini last, pre = ini ++ [last] ∧ (∀ p ∈ ini, p.2.val.applies s.data.toList dir = false) ∧ last.2.val.applies s.data.toList dir = true ∧ W.heap[w.heap.size + 2]? = some (.cells #[.bool (!last.2.val.keep)] 4)) ∧ Below w.heap.size w W

def RuleBox (W : World) (B : Nat) (x : Pn.Rule) : Prop := W.heap[B]? = some (.cells #[S x.pattern, .bool x.keep, .bool x.dir, .bool x.rooted] 36)

theorem ruleBox_own (w1 : World) (fr : Nat → Nat × Rl → Act) (x : Nat × Rl) (a' : Act) : OwnFrom w1.heap.size (fun (_ : Unit) W => ∃ Bx, w1.heap.size ≤ Bx ∧ RuleBox W Bx x.2.val ∧ a' = fr Bx x) := by
  rintro _ X Y row ⟨Bx, h1, h2, h3⟩ hg hr
  refine ⟨Bx, h1, ?_, h3⟩
  unfold RuleBox at *
  rw [hg.block Bx (lt_of_block h2) (fun e => by obtain ⟨_, o, ho, hc⟩ := hr Bx e.symm; rw [h2] at ho; cases ho; cases hc)]
  exact h2

theorem igX_own (s : ByteArray) (dir : Bool) (w : World) {B : Nat} (hB : w.heap.size ≤ B) (c : Code) : OwnFrom B (IgX s dir w c) := by
  rintro pre X Y row ⟨⟨h1, ini, last, h2, h3, h4, h5⟩, h6⟩ hg hr
  refine ⟨⟨h1, ini, last, h2, h3, h4, ?_⟩, h6.grown hg h6.size (fun k e => Nat.le_trans hB (hr k e).1)⟩
  rw [hg.block _ (lt_of_block h5) (fun e => by obtain ⟨_, o, ho, hc⟩ := hr _ e.symm; rw [h5] at ho; cases ho; cases hc)]
  exact h5

theorem keeps_below {B : Nat} {W W' : World} (h : Below W.heap.size W W') : KeepsFrom B W W' := ⟨h.size, fun k _ _ hk _ => (h.block k (Array.getElem?_eq_some_iff.1 hk).1).trans hk⟩

theorem lastP_mem (l : Pn.B) : Pn.lastP l ∈ Pn.splitS 47 l := by
  have hne := Pn.splitS_ne 47 l
  unfold Pn.lastP
  rw [List.getLastD_eq_getLast?, List.getLast?_eq_some_getLast hne]
  exact List.getLast_mem hne

theorem valid_pat {x : Pn.Rule} (h : x.validP = true) : ∃ pat, Pn.compileP x.pattern = some pat := by
  unfold Pn.Rule.validP at h
  simp only [Bool.and_eq_true] at h
  exact Option.isSome_iff_exists.1 h.1.1.1

theorem compile_good (p : ByteArray) (w : World) (hp : p.size < 4294967281) (hE : Env w) {pat : List (Option (List Pn.Item))} (hc : Pn.compileP p.data.toList = some pat) :
    Calls Tryd.prog 33 #[.string p] w fun e w' => ∃ va vc qs, e = .returned (.tuple #[.slice va qs.length vc, .bool true]) ∧ Below w.heap.size w w' ∧ qs.map CompV.plain = pat ∧ GoodPat w' w.heap.size va vc qs :=
  (compile_any p w hp hE).mono (by
    rintro e w' ⟨hb, v, rfl, _, hl⟩
    obtain ⟨qs, h1, h2⟩ := hl pat hc
    obtain ⟨va, vc, rfl, h3⟩ := goodPat_of h2 h1 hc
    exact ⟨va, vc, qs, by rw [hc]; rfl, hb, h1, h3⟩)

theorem back_map (rs : List Rl) {k : Nat} (hk : k ≤ rs.length) : (upto (backAt rs) k).map (fun p => p.2.val) = (rls rs).reverse.take k := by
  apply List.ext_getElem
  · simp [upto, rls, hk]
  · intro i h1 h2
    have hi : i < k := by simpa [upto] using h1
    simp only [upto, List.getElem_map, List.getElem_range, List.getElem_take, List.getElem_reverse, List.length_map]
    have : rs.length - 1 - i < rs.length := by omega
    simp [backAt, List.getD, this]

theorem ign_none {rs : List Rl} {path : Pn.B} {dir : Bool} (h : ∀ p ∈ upto (backAt rs) rs.length, p.2.val.applies path dir = false) : Pn.ignored1 (rls rs) path dir = false := by
  have e := back_map rs (Nat.le_refl _)
  rw [List.take_of_length_le (by simp)] at e
  unfold Pn.ignored1
  have : (rls rs).reverse.find? (fun x => x.applies path dir) = none := by
    rw [List.find?_eq_none, ← e]
    intro x hx
    obtain ⟨p, hp, rfl⟩ := List.mem_map.1 hx
    rw [h p hp]; decide
  rw [this]

theorem ign_some {rs : List Rl} {path : Pn.B} {dir : Bool} {k : Nat} {ini : List (Nat × Rl)} {last : Nat × Rl} (hk : k ≤ rs.length) (h : upto (backAt rs) k = ini ++ [last]) (hi : ∀ p ∈ ini, p.2.val.applies path dir = false) (hl : last.2.val.applies path dir = true) :
    Pn.ignored1 (rls rs) path dir = !last.2.val.keep := by
  have e := back_map rs hk
  rw [h] at e
  unfold Pn.ignored1
  have hs : (rls rs).reverse = (ini.map fun p => p.2.val) ++ last.2.val :: (rls rs).reverse.drop k := by
    conv => lhs; rw [← List.take_append_drop k (rls rs).reverse]
    rw [← e]; simp
  have : (rls rs).reverse.find? (fun x => x.applies path dir) = some last.2.val := by
    rw [hs, List.find?_append]
    have hn : (ini.map fun p => p.2.val).find? (fun x => x.applies path dir) = none := by
      rw [List.find?_eq_none]
      intro x hx
      obtain ⟨p, hp, rfl⟩ := List.mem_map.1 hx
      rw [hi p hp]; decide
    rw [hn, Option.none_or, List.find?_cons, hl]
  rw [this]

theorem ig_cells {s : ByteArray} {dir : Bool} {nm : ByteArray} {w W0 w1 W : World} (h : IgFacts s dir nm w W0) (h1 : Below W0.heap.size W0 w1) (h2 : Below w1.heap.size w1 W) :
    W.cell? ⟨w.heap.size, 0, none⟩ = some (.string s) ∧ W.cell? ⟨w.heap.size + 1, 0, none⟩ = some (.bool dir) ∧ W.cell? ⟨w.heap.size + 1 + 1, 0, none⟩ = some (.bool false) ∧ W.frozen? ⟨w.heap.size + 1 + 1, 0, none⟩ = false ∧ W.cell? ⟨w.heap.size + 1 + 1 + 1, 0, none⟩ = some (.string nm) := by
  have hb := below_then h1 h2
  have hz := h.size
  have k0 := (hb.block _ (lt_of_block h.b0)).trans h.b0
  have k1 := (hb.block _ (lt_of_block h.b1)).trans h.b1
  have k2 := (hb.block _ (lt_of_block h.b2)).trans h.b2
  have k3 := (hb.block _ (lt_of_block h.b3)).trans h.b3
  exact ⟨cell_of_block' k0 0, cell_of_block' k1 0, cell_of_block' k2 0, free_of_block k2 0, cell_of_block' k3 0⟩

set_option maxHeartbeats 2000000 in
set_option maxRecDepth 100000 in
theorem ignored_any (s : ByteArray) (dir : Bool) (va : Option Addr) (vc : Nat) (rs : List Rl) (w : World) (hs : s.size < 4294967280) (hlen : rs.length < 4294967281) (hE : Env w) (hr : RulesAt w va vc (rls rs)) :
    Calls Tryd.prog 39 #[.slice va rs.length vc, .string s, .bool dir] w fun e w' => e = .returned (.bool (Pn.ignored1 (rls rs) s.data.toList dir)) ∧ Below w.heap.size w w' := by
  obtain ⟨k, hk, hL, hname⟩ := last_part s
  have HL := Lib.hid fun w => Tryd.strings_LastIndexByte s 47 (by omega) w
  rw [hL] at HL
  obtain ⟨nm, hnm⟩ : ∃ nm, s.extract k s.size = nm := ⟨_, rfl⟩
  have HN := Lib.hid (hname.trans hnm)
  have HNM := Lib.hid hnm
  have HR := Lib.hid hr
  have HE := Lib.hid hE
  have hkz : (k : Int) ≤ (s.size : Int) := by omega
  have hk0 : (0 : Int) ≤ (k : Int) := by omega
  have hkw : IntKind.i64.wrap (k : Int) = (k : Int) := by rw [IntKind.wrap_i64]; omega
  have hkw1 : IntKind.i64.wrap ((k : Int) - 1 + 1) = (k : Int) := by rw [IntKind.wrap_i64]; omega
  clear hL hname hr hE
  refine (callsIn_wide (n := 3)).1 ?_
  refine callsIn_of_wp_marks Tryd.func39 rfl trivial ?_ rfl
  simp only [Tryd.ntmps39, List.size_toArray, List.length_cons, List.length_nil, Nat.reduceAdd, Nat.reduceSub, Array.replicate_succ, Array.replicate_zero, List.push_toArray, List.append_toArray, List.nil_append, List.cons_append]
  refine wpIn_wide.2 ?_
  go_wp2_with fail
  go_region_held3 (fun W => W.cell? ⟨w.heap.size, 0, none⟩ = some (.string s)) (go_keep) (first | (go_at_call 40; refine (HL.out _).mono ?_; rintro e w' ⟨rfl, rfl⟩))
  all_goals go_wp2_with fail
  all_goals have hf := ig_four w (.cells #[.string s] 9) (.cells #[.bool dir] 4) (.cells #[.bool false] 4) (.cells #[.string nm] 9)
  all_goals generalize hW0 : ((((w.alloc (.cells #[.string s] 9)).alloc (.cells #[.bool dir] 4)).alloc (.cells #[.bool false] 4)).alloc (.cells #[.string nm] 9)).drew = W0 at *
  all_goals obtain ⟨b0, b1, b2, b3, hB0, hz0⟩ := hf
  all_goals clear hW0
  all_goals refine (backward_any _ _ _ W0).mono ?_
  all_goals rintro e w1 ⟨rfl, hw1⟩
  all_goals have hbx := heap_alloc_new W0 (.cells #[.slice va rs.length vc] 29)
  all_goals rw [← hw1] at hbx
  all_goals have hB1 : Below W0.heap.size W0 w1 := by rw [hw1]; exact (Below.refl _ _).alloc (Nat.le_refl _) _
  all_goals have hz1 : w1.heap.size = w.heap.size + 5 := by rw [hw1]; simp [hz0]
  all_goals clear hw1
  all_goals go_wp2_with fail
  all_goals (
    have HF := Lib.hid (show IgFacts s dir nm w W0 from ⟨b0, b1, b2, b3, hB0, hz0⟩)
    have HB1 := Lib.hid hB1
    refine wpIn_wide.1 (wpIn_rangeFunc_ownH (F := Fence.wide) (n := 3) rfl (by omega) (gf := 81) (lb := #[.pointer (some ⟨w.heap.size + 4, 0, none⟩)]) rfl trivial (enters_of Tryd.func81 (by kernel_rfl) rfl)
      (backward_stops Fence.wide _ trivial rfl (by omega) (w.heap.size + 4) w1.heap.size va vc rs hlen w1 (by omega) (Nat.le_refl _) (by rw [← hz0]; exact cell_of_block' hbx 0) (by
        rcases (HR.out.below hB0).below hB1 with h | ⟨g, h1, h2, h3⟩
        · exact .inl (List.map_eq_nil_iff.1 h)
        · exact .inr ⟨g, h1, h2, h3⟩)) belowK_t (belowK_b (Nat.le_refl _)) (Below.refl _ _) (fun _ => rfl)
      (IgI s dir w1) (IgX s dir w) (OwnFrom.and (ownFrom_pure _ _) (ownFrom_below (Nat.le_refl _) (Nat.le_refl _))) (igX_own s dir w (by omega)) ⟨by simp, Below.refl _ _⟩
      (fun x a' W => ∃ Bx, w1.heap.size ≤ Bx ∧ RuleBox W Bx x.2.val ∧ a' = { tmps := #[.slice va rs.length vc, .string s, .bool dir, undef, .pointer (some ⟨w.heap.size, 0, none⟩), .pointer (some ⟨w.heap.size + 1, 0, none⟩), .pointer (some ⟨w.heap.size + 1 + 1, 0, none⟩), .pointer (some ⟨w.heap.size + 1 + 1 + 1, 0, none⟩), undef, .pointer (some ⟨Bx, 0, none⟩), undef, undef, undef, .string s, .string s, .int .i64 ((k : Int) - 1), .int .i64 (k : Int), .string nm, .slice va rs.length vc, .func (.func 81) #[] #[.pointer (some ⟨w.heap.size + 4, 0, none⟩)], .int .i64 (x.1 : Int), ruleV x.2.val, undef, undef, undef, undef, undef, undef, undef, undef, undef, undef, undef, undef, undef, undef, undef, undef, undef, undef, undef, undef, undef, undef], defers := [] }) (ruleBox_own w1 _) ?assign ?body ?done ?stop)
    case assign =>
      intro l pre x W K hi hK
      gi_wp2
      exact hK _ _ ((KeepsOthers.alloc _ _).from _) ((Below.refl _ W).alloc hi.2.size _) ⟨hi.1, hi.2.alloc hi.2.size _⟩ ⟨W.heap.size, hi.2.size, heap_alloc_new W _, rfl⟩
    case body =>
      rintro l pre x a' W hl ⟨r, hr⟩ hI ⟨Bx, hBx, bX, rfl⟩ hlt
      have hfx := ig_cells HF.out HB1.out hI.2
      obtain ⟨c0, c1, c2, f2, c3⟩ := hfx
      have x0 := cell_of_block' bX 0
      have x1 := cell_of_block' bX 1
      have x2 := cell_of_block' bX 2
      have x3 := cell_of_block' bX 3
      simp at x0 x1 x2 x3
      have HI := Lib.hid hI
      clear hI
      obtain ⟨xi, ⟨⟨p, keep, xd, rooted⟩, hxl, hxv⟩⟩ := x
      by_cases hskip : (xd && !dir) = true
      · simp only [Bool.and_eq_true, Bool.not_eq_true'] at hskip
        obtain ⟨rfl, rfl⟩ := hskip
        gi_wp2
        exact ⟨KeepsFrom.refl _ _, Below.refl _ _, ⟨fun q hq => by
          rcases List.mem_append.1 hq with hq | hq
          · exact HI.out.1 q hq
          · simp at hq; subst hq; simp [Pn.Rule.applies], HI.out.2⟩⟩
      · obtain ⟨pat, hpat⟩ := valid_pat hxv
        simp only at hpat hxl
        have hap : (Pn.Rule.mk p keep xd rooted).applies s.data.toList dir = Pn.matchP pat (if rooted then s.data.toList else Pn.lastP s.data.toList) := by
          unfold Pn.Rule.applies
          simp only [hpat]
          cases xd <;> cases dir <;> first | rfl | (exact absurd rfl hskip)
        have HC := Lib.hid (compile_good ⟨p.toArray⟩ W (by simpa [ByteArray.size] using hxl) (HE.out.below (below_then HF.out.below (below_then HB1.out HI.out.2))) hpat)
        have HEW := Lib.hid (HE.out.below (below_then HF.out.below (below_then HB1.out HI.out.2)))
        have hskip' : (xd && !dir) = false := by simpa using hskip
        have hnl : nm.data.toList = Pn.lastP s.data.toList := by rw [← HN.out]
        have hns : nm.size < 4294967280 := by
          rw [size_eq, hnl]
          have : (Pn.lastP s.data.toList).length ≤ s.data.toList.length := by
            exact splitS_part (lastP_mem _)
          rw [← size_eq] at this; omega
        have HM := Lib.hid fun W2 base va vc qs (h : Env W2) (hg : GoodPat W2 base va vc qs) (hq : qs.map CompV.plain = pat) => show Calls Tryd.prog 34 #[.slice va qs.length vc, .string (if rooted then s else nm)] W2 fun e w' => e = .returned (.bool ((Pn.Rule.mk p keep xd rooted).applies s.data.toList dir)) ∧ Below W2.heap.size W2 w' from by
          rw [hap]
          cases rooted with
          | true => have := match_any s W2 base va vc qs (by omega) h hg; rw [hq] at this; exact this
          | false => have := match_any nm W2 base va vc qs hns h hg; rw [hq, hnl] at this; exact this
        clear hap hpat hskip hnl hns
        obtain ⟨ap, hapv⟩ : ∃ ap, (Pn.Rule.mk p keep xd rooted).applies s.data.toList dir = ap := ⟨_, rfl⟩
        rw [hapv] at HM
        have HAP := Lib.hid hapv
        clear hapv
        cases xd <;> cases dir <;> cases rooted
        all_goals first | (cases hskip'; done) | skip
        all_goals clear hskip'
        all_goals simp only [if_true, if_false, Bool.false_eq_true] at HM
        all_goals gi_wp2_with fail
        all_goals refine ⟨trivial, (CallsIn.inRound l (callsIn_wide.2 HC.out)).mono ?_⟩
        all_goals rintro e w2 ⟨va', vc', qs, rfl, hb2, hq, hg⟩
        all_goals have hI2 := HI.out.2.trans (hb2.mono HI.out.2.size)
        all_goals obtain ⟨c0, c1, c2, f2, c3⟩ := ig_cells HF.out HB1.out hI2
        all_goals have y1 : w2.cell? ⟨Bx, 1, none⟩ = some (.bool keep) := by rw [hb2.cell (p := ⟨Bx, 1, none⟩) (lt_of_block bX)]; exact x1
        all_goals have y3 := (hb2.cell (p := ⟨Bx, 3, none⟩) (lt_of_block bX)).trans x3
        all_goals have HM2 := Lib.hid (HM.out w2 _ _ _ _ (HEW.out.below hb2) hg hq)
        all_goals have HB2 := Lib.hid hb2
        all_goals clear hb2 hI2 hq hg
        all_goals gi_wp2_with fail
        all_goals cases ap
        all_goals refine ⟨trivial, (CallsIn.inRound l (callsIn_wide.2 HM2.out)).mono ?_⟩
        all_goals rintro e w3 ⟨rfl, hb3⟩
        all_goals have HB3 := Lib.hid (below_then HB2.out hb3)
        all_goals have hI3 := HI.out.2.trans (HB3.out.mono HI.out.2.size)
        all_goals obtain ⟨c0, c1, c2, f2, c3⟩ := ig_cells HF.out HB1.out hI3
        all_goals have y1 := (HB3.out.cell (p := ⟨Bx, 1, none⟩) (lt_of_block bX)).trans x1
        all_goals have HI3 := Lib.hid hI3
        all_goals have b2' := ((below_then HB1.out hI3).block _ (lt_of_block HF.out.b2)).trans HF.out.b2
        all_goals have B2' := Lib.hid b2'
        all_goals clear hb3 hI3 b2'
        all_goals gi_wp2_with fail
        all_goals first
          | exact ⟨keeps_below HB3.out, HB3.out.mono HI.out.2.size, ⟨fun q hq => by
              rcases List.mem_append.1 hq with hq | hq
              · exact HI.out.1 q hq
              · simp at hq; subst hq; exact HAP.out, HI3.out⟩⟩
          | exact ⟨(keeps_below HB3.out).trans ((KeepsOthers.setCell _ _ _).from _), ⟨rfl, pre, _, rfl, HI.out.1, HAP.out, by rw [block_set B2'.out 0 _]; rfl⟩, (below_then HF.out.below (below_then HB1.out HI3.out)).setCell (by simp; omega) _⟩
    case done =>
      rintro D ys W hD rfl hI hK
      have hfx := ig_cells HF.out HB1.out hI.2
      obtain ⟨c0, c1, c2, f2, c3⟩ := hfx
      have HI := Lib.hid hI
      have HK := Lib.hid hK
      clear hI hK
      go_wp2_with fail
      have hK' := (KeepsOthers.setCell W ⟨w.heap.size + 1 + 1, 0, none⟩ (.bool false)).same D _ HK.out rfl
      refine ⟨by simp, .inl ⟨_, _, rfl, run_takeDeferred hK', ?_⟩⟩
      have hc5 := cell_kept (World.cell?_setCell_same' W ⟨w.heap.size + 1 + 1, 0, none⟩ (.bool false) (by rw [c2]; rfl)) (grownBy_putObj' _ D (.deferred none)) (fun r e => by cases e; exact ⟨_, hK', rfl⟩)
      refine ⟨.bool false, ?_, ⟨by rw [ign_none HI.out.1], ((below_then HF.out.below (below_then HB1.out HI.out.2)).setCell (p := ⟨w.heap.size + 1 + 1, 0, none⟩) (by simp; omega) _).trans (belowK_b (w := w) (Nat.le_refl _) _ D _ _ (by omega) hK' rfl rfl)⟩⟩
      simp [results, Tryd.results39, go_sem, hc5]
    case stop =>
      rintro D c pre W hD ⟨kk, hkk, hpre⟩ ⟨⟨rfl, ini, last, e1, e2, e3, hb⟩, hB⟩ hK
      have hcr := cell_of_block' hb 0
      have HK := Lib.hid hK
      have HBB := Lib.hid hB
      have HIG := Lib.hid (ign_some hkk (hpre.symm.trans e1) e2 e3)
      clear hK hB hb e1 e2 e3 hpre
      gi_wp2
      refine ⟨by simp, .inl ⟨_, _, rfl, run_takeDeferred HK.out, ?_⟩⟩
      have hc5 := cell_kept hcr (grownBy_putObj' _ D (.deferred none)) (fun r e => by cases e; exact ⟨_, HK.out, rfl⟩)
      refine ⟨.bool (!last.2.val.keep), ?_, ⟨by rw [HIG.out], HBB.out.trans (belowK_b (w := w) (Nat.le_refl _) W D _ _ (by omega) HK.out rfl rfl)⟩⟩
      simp [results, Tryd.results39, go_sem, hc5])

end Go.Proofs.YtdnbmkfmckppaaaDoor
