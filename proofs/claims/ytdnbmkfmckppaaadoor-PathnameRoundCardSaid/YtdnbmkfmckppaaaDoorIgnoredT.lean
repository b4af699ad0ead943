/-
  The walk of pathname.Ignored.
-/
import Derived.Test.YtdnbmkfmckppaaaDoorIgnored
namespace Go.Proofs.YtdnbmkfmckppaaaDoor
open Go.RowKit Go.Lib

theorem split_join (c : UInt8) : ∀ (l : List Pn.B), l ≠ [] → (∀ p ∈ l, c ∉ p) → Pn.splitS c (Pn.joinS c l) = l
  | [], h, _ => absurd rfl h
  | [p], _, h => by simp only [Pn.joinS]; exact Pn.splitS_none (h p (by simp))
  | p :: q :: r, _, h => by
    simp only [Pn.joinS]
    rw [Pn.splitS_append, Pn.splitS_none (h p (by simp)), split_join c (q :: r) (by simp) (fun x hx => h x (List.mem_cons_of_mem _ hx))]
    simp

theorem parent_len {s : Pn.B} (hs : s ≠ []) : (Pn.parentP s).length < s.length := by
  rcases Pn.last_slash ⟨s.toArray⟩ with ⟨_, _, h⟩ | ⟨i, hi, _, _, _, h⟩
  · have h' : Pn.parentP s = [] := h
    rw [h']; exact List.length_pos_iff.2 hs
  · have h' : Pn.parentP s = s.take i := h
    have hi' : i < s.length := hi
    rw [h', List.length_take]; omega

theorem parent_valid {s : Pn.B} (hv : Pn.validP s = true) : Pn.parentP s = [] ∨ Pn.validP (Pn.parentP s) = true := by
  unfold Pn.validP at *
  simp only [Bool.and_eq_true, decide_eq_true_eq, List.all_eq_true] at *
  obtain ⟨⟨h1, h2⟩, h3⟩ := hv
  by_cases hd : (Pn.splitS 47 s).dropLast = []
  · left; unfold Pn.parentP; rw [hd]; rfl
  · right
    have hsp : Pn.splitS 47 (Pn.parentP s) = (Pn.splitS 47 s).dropLast := split_join 47 _ hd (fun p hp => Pn.splitS_mem p (List.dropLast_subset _ hp))
    have hlen : (Pn.parentP s).length ≤ 512 := by
      by_cases hs : s = []
      · subst hs; exact absurd (by rfl) hd
      · have := parent_len hs; omega
    rw [hsp]
    refine ⟨⟨hlen, by simp; omega⟩, fun p hp => h3 p (List.dropLast_subset _ hp)⟩

def ignoredTop (rules : List Pn.Rule) (path : Pn.B) (dir : Bool) : Bool × Int := if Pn.goodRules rules && Pn.validP path then (Pn.ignoredP rules path dir, 0) else (false, 1)

theorem ignoredGo_step (rules : List Pn.Rule) (path : Pn.B) (dir : Bool) (n : Nat) (hn : path.length < n) (hp : path ≠ []) : Pn.ignoredGo rules n path dir = (Pn.ignored1 rules path dir || Pn.ignoredGo rules (n - 1) (Pn.parentP path) true) := by
  obtain ⟨m, rfl⟩ : ∃ m, n = m + 1 := ⟨n - 1, by omega⟩
  rw [Pn.ignoredGo, if_neg hp]; rfl

theorem goodRules_lift {rules : List Pn.Rule} (hp : ∀ x ∈ rules, x.pattern.length < 4294967281) (hg : Pn.goodRules rules = true) : ∃ rs : List Rl, rls rs = rules ∧ rs.length = rules.length := by
  unfold Pn.goodRules at hg
  simp only [Bool.and_eq_true, List.all_eq_true] at hg
  refine ⟨rules.pmap (fun x h => ⟨x, h⟩) (fun x hx => ⟨hp x hx, hg.2 x hx⟩), ?_, by simp⟩
  simp [rls, List.map_pmap]

theorem closure_ent : ∀ args w, (callFunc 37 args).run Tryd.prog w = .ok (.enter 37 args) w := enters_of Tryd.func37 (by kernel_rfl) rfl

set_option maxHeartbeats 2000000 in
set_option maxRecDepth 100000 in
theorem ignored_top (rules : List Pn.Rule) (va : Option Addr) (vc : Nat) (s : ByteArray) (dir : Bool) (w : World) (hl : rules.length < 4294967281) (hp : ∀ x ∈ rules, x.pattern.length < 4294967281) (hs : s.size < 4294967280) (hE : Env w) (hr : RulesAt w va vc rules) :
    Calls Tryd.prog 15 #[.slice va rules.length vc, .string s, .bool dir] w fun e w' => e = .returned (.tuple #[.bool (ignoredTop rules s.data.toList dir).1, .int .i64 (ignoredTop rules s.data.toList dir).2]) ∧ Below w.heap.size w w' := by
  have HCF := Lib.hid (containsFunc_rule 37 closure_ent rules va vc w hl hp hE hr (fun x w1 h1 h2 => notvalid_any x w1 h1 h2))
  have HV := Lib.hid fun w1 (h : Env w1) => valid_any s w1 (by omega) h
  have HE := Lib.hid hE
  by_cases h256 : rules.length ≤ 256
  · have hz : ¬ (256 : Int) < (rules.length : Int) := by omega
    cases hall : rules.all Pn.Rule.validP with
    | false =>
      rw [hall] at HCF
      have hT : ignoredTop rules s.data.toList dir = (false, 1) := by unfold ignoredTop Pn.goodRules; rw [hall]; simp
      have HT := Lib.hid hT
      clear hT hall hp hE hr
      go_enter Tryd.func15, Tryd.ntmps15
      go_wp2_with fail
      refine HCF.out.mono ?_
      rintro e w1 ⟨rfl, hb⟩
      go_wp2_with fail
      go_ret2
      exact ⟨by rw [HT.out]; rfl, hb⟩
    | true =>
      rw [hall] at HCF
      cases hv : Pn.validP s.data.toList with
      | false =>
        rw [hv] at HV
        have hT : ignoredTop rules s.data.toList dir = (false, 1) := by unfold ignoredTop; rw [hv]; simp
        have HT := Lib.hid hT
        clear hT hall hp hE hr hv
        go_enter Tryd.func15, Tryd.ntmps15
        go_wp2_with fail
        refine HCF.out.mono ?_
        rintro e w1 ⟨rfl, hb⟩
        go_wp2_with fail
        refine (HV.out _ (HE.out.below hb)).mono ?_
        rintro e w2 ⟨rfl, hb2⟩
        have HB := Lib.hid (below_then hb hb2)
        clear hb hb2
        go_wp2_with fail
        go_ret2
        exact ⟨by rw [HT.out]; rfl, HB.out⟩
      | true =>
        rw [hv] at HV
        have hT : ignoredTop rules s.data.toList dir = (Pn.ignoredP rules s.data.toList dir, 0) := by unfold ignoredTop Pn.goodRules; rw [hv, hall, decide_eq_true h256]; rfl
        have HT := Lib.hid hT
        obtain ⟨rs, hrs, hrl⟩ := goodRules_lift hp (show Pn.goodRules rules = true by unfold Pn.goodRules; rw [hall, decide_eq_true h256]; rfl)
        subst hrs
        have HR := Lib.hid hr
        have hrl' : (rls rs).length = rs.length := hrl.symm
        have HVP := Lib.hid hv
        clear hT hall hp hE hr hv
        rw [hrl'] at HCF hz hl
        rw [hrl']
        clear hrl hrl' h256
        go_enter Tryd.func15, Tryd.ntmps15
        go_wp2_with fail
        refine HCF.out.mono ?_
        rintro e w1 ⟨rfl, hb⟩
        go_wp2_with fail
        refine (HV.out _ (HE.out.below hb)).mono ?_
        rintro e w2 ⟨rfl, hb2⟩
        have HB := Lib.hid (below_then hb hb2)
        clear hb hb2
        go_wp2_with fail
        have hs' : s.data.toList.length < 4294967280 := by rw [← size_eq]; exact hs
        go_loopg [1, 2] s.size (fun gg pv dv wr => ∃ (p : Pn.B) (d : Bool) (n : Nat), pv = S p ∧ dv = .bool d ∧ p.length ≤ gg ∧ p.length ≤ s.size ∧ Hid (p = [] ∨ Pn.validP p = true) ∧ p.length < n ∧ Hid (Pn.ignoredGo (rls rs) n p d = Pn.ignoredP (rls rs) s.data.toList dir) ∧ Below w.heap.size w wr)
        case atStart => exact ⟨s.data.toList, dir, s.data.toList.length + 1, rfl, rfl, by rw [size_eq]; exact Nat.le_refl _, by rw [size_eq]; exact Nat.le_refl _, Or.inr HVP.out, by omega, rfl, HB.out⟩
        case round =>
          obtain ⟨p, d, n, rfl, rfl, hgg, hps, hpv, hn, hgo, hbr⟩ := hrel
          have HBR := Lib.hid hbr
          clear hbr
          cases p with
          | nil =>
            have hfin : Hid (Pn.ignoredP (rls rs) s.data.toList dir = false) := by
              unfold Hid
              rw [← hgo.out]
              cases n <;> simp [Pn.ignoredGo]
            clear hgo hpv
            go_wp2_with fail
            go_ret2
            exact ⟨by rw [HT.out, hfin.out]; rfl, HBR.out⟩
          | cons b q =>
            have hstep := ignoredGo_step (rls rs) (b :: q) d n hn (by simp)
            have hIG := Lib.hid (ignored_any ⟨(b :: q).toArray⟩ d va vc rs wr (by show (b :: q).length < 4294967280; omega) hl (HE.out.below HBR.out) (HR.out.below HBR.out))
            have hpl := parent_len (s := b :: q) (by simp)
            have hpvv : Pn.validP (b :: q) = true := by rcases hpv.out with h | h; cases h; exact h
            have hPA := Lib.hid fun W (hW : Env W) => show Calls Tryd.prog 16 #[S (b :: q)] W fun e w' => e = .returned (.tuple #[S (Pn.parentP (b :: q)), .bool true]) ∧ Below W.heap.size W w' from
              (parent_any ⟨(b :: q).toArray⟩ W (by show (b :: q).length < 4294967281; omega) hW).mono (by
                rintro e w' ⟨hb, rfl⟩
                refine ⟨?_, hb⟩
                rw [show (⟨(b :: q).toArray⟩ : ByteArray).data.toList = b :: q from rfl, hpvv]; rfl)
            have hpv2 := parent_valid hpvv
            rw [show (⟨(b :: q).toArray⟩ : ByteArray).data.toList = b :: q from rfl] at hIG
            generalize Pn.parentP (b :: q) = pp at *
            cases hig : Pn.ignored1 (rls rs) (b :: q) d with
            | true =>
              rw [hig] at hIG hstep
              have hfin : Hid (Pn.ignoredP (rls rs) s.data.toList dir = true) := by
                unfold Hid
                rw [← hgo.out, hstep]; rfl
              clear hgo hpv hstep hig hpv2 hpvv
              go_wp2_with fail
              refine hIG.out.mono ?_
              rintro e w3 ⟨rfl, hb3⟩
              have HB3 := Lib.hid (below_then HBR.out hb3)
              clear hb3
              go_wp2_with fail
              go_ret2
              exact ⟨by rw [HT.out, hfin.out]; rfl, HB3.out⟩
            | false =>
              rw [hig] at hIG hstep
              have hnext : Hid (Pn.ignoredGo (rls rs) (n - 1) pp true = Pn.ignoredP (rls rs) s.data.toList dir) := by
                unfold Hid
                rw [← hgo.out, hstep]; rfl
              have HP2 := Lib.hid hpv2
              clear hgo hpv hstep hig hpv2 hpvv
              go_wp2_with fail
              refine hIG.out.mono ?_
              rintro e w3 ⟨rfl, hb3⟩
              have HB3 := Lib.hid (below_then HBR.out hb3)
              clear hb3
              go_wp2_with fail
              refine (hPA.out _ (HE.out.below HB3.out)).mono ?_
              rintro e w4 ⟨rfl, hb4⟩
              have HB4 := Lib.hid (below_then HB3.out hb4)
              clear hb4
              go_wp2_with fail
              go_roundg pp.length
              case measure => omega
              case rel => exact ⟨pp, true, n - 1, rfl, rfl, Nat.le_refl _, by omega, HP2.out, by omega, hnext, HB4.out⟩
  · have hz : (256 : Int) < (rules.length : Int) := by omega
    have hT : ignoredTop rules s.data.toList dir = (false, 1) := by unfold ignoredTop Pn.goodRules; rw [decide_eq_false h256]; simp
    have HT := Lib.hid hT
    clear hT hp hE hr
    go_enter Tryd.func15, Tryd.ntmps15
    go_wp2_with fail
    go_ret2
    exact ⟨by rw [HT.out]; rfl, Below.refl _ _⟩

end Go.Proofs.YtdnbmkfmckppaaaDoor
