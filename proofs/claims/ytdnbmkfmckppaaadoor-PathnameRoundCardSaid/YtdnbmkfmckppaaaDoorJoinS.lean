/-
  strings.Join with a slash, over a slice of strings in memory.
-/
import Derived.Test.YtdnbmkfmckppaaaDoorLeaf2
namespace Go.Proofs.YtdnbmkfmckppaaaDoor
open Go.RowKit Go.Lib

theorem join_eq (c : UInt8) : ∀ l : List Pn.B, Lib.join l [c] = Pn.joinS c l
  | [] => rfl
  | [p] => join_one p [c]
  | p :: q :: r => by
    rw [Pn.joinS, ← join_eq c (q :: r)]
    simp [Lib.join, List.intercalate, List.intersperse]

/-- The bytes of the parts, with one more for each. -/
def weight (l : List Pn.B) : Nat := (l.map fun p => p.length + 1).sum

theorem joinS_len (c : UInt8) : ∀ l : List Pn.B, (Pn.joinS c l).length ≤ weight l
  | [] => by simp [Pn.joinS, weight]
  | [p] => by simp [Pn.joinS, weight]
  | p :: q :: r => by
    have ih := joinS_len c (q :: r)
    simp only [Pn.joinS, List.length_append, List.length_cons]
    simp only [weight, List.map_cons, List.sum_cons] at ih ⊢
    omega

theorem splitS_weight (c : UInt8) : ∀ l : Pn.B, weight (Pn.splitS c l) = l.length + 1
  | [] => by simp [Pn.splitS, weight]
  | b :: t => by
    have ih := splitS_weight c t
    by_cases hb : b = c
    · subst hb
      have : Pn.splitS b (b :: t) = [] :: Pn.splitS b t := by
        have := Pn.splitS_append b [] t
        rw [List.nil_append] at this
        rw [this, Pn.splitS_none (by simp)]; rfl
      rw [this]
      simp only [weight, List.map_cons, List.sum_cons] at ih ⊢
      rw [ih]; simp; omega
    · obtain ⟨p, r, h1, h2⟩ := Pn.splitS_cons_ne hb t
      rw [h1] at ih
      rw [h2]
      simp only [weight, List.map_cons, List.sum_cons, List.length_cons] at ih ⊢
      omega

theorem join_any (l : List Pn.B) (va : Option Addr) (vc : Nat) (w : World) (hr : l = [] ∨ ∃ g, va = some ⟨g, 0, none⟩ ∧ g < w.heap.size ∧ RowAt w g 0 (l.map S) ∧ l.length ≤ vc) (hw : weight l ≤ 140737488355328) :
    Calls Tryd.prog 49 #[.slice va l.length vc, .string ⟨#[47]⟩] w fun e w' => e = .returned (S (Pn.joinS 47 l)) ∧ Below w.heap.size w w' := by
  rcases hr with rfl | ⟨g, rfl, hg, hrow, hc⟩
  · refine (Tryd.strings_Join_none va vc ⟨#[47]⟩ w).mono ?_
    rintro e w' ⟨rfl, rfl⟩
    exact ⟨rfl, Below.refl _ _⟩
  · have hlen : l.length ≤ weight l := by
      clear hrow hc hw
      induction l with
      | nil => simp [weight]
      | cons p r ih => simp only [weight, List.map_cons, List.sum_cons, List.length_cons] at ih ⊢; omega
    have h := Tryd.strings_Join g 0 vc (l.map fun p => ⟨p.toArray⟩) ⟨#[47]⟩ w (fun j x hx => by
      rw [List.getElem?_map, Option.map_eq_some_iff] at hx
      obtain ⟨p, hp, rfl⟩ := hx
      obtain ⟨hj, rfl⟩ := List.getElem?_eq_some_iff.1 hp
      have := hrow j (by simpa using hj)
      rw [this]; simp) hg (by simp; omega) (by simpa using hc) (by
        have e : (l.map fun p => (⟨p.toArray⟩ : ByteArray)).map (·.data.toList) = l := by simp [Function.comp_def]
        rw [e, show (⟨#[47]⟩ : ByteArray).data.toList = [47] from rfl, join_eq]
        exact Nat.le_trans (joinS_len 47 l) hw)
    have e : (l.map fun p => (⟨p.toArray⟩ : ByteArray)).map (·.data.toList) = l := by simp [Function.comp_def]
    rw [e, show (⟨#[47]⟩ : ByteArray).data.toList = [47] from rfl, join_eq, List.length_map] at h
    exact h

end Go.Proofs.YtdnbmkfmckppaaaDoor
