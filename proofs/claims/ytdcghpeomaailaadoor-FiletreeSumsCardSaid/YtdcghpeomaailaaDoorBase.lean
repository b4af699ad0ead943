/-
  What every walk of this seat begins with: the library's variables that the road reads ('Env'), and small lemmas on worlds.
-/
import Derived.Test.YtdcghpeomaailaaDoorProg
import Derived.Test.YtdcghpeomaailaaDoorPure
import Derived.WalkKit
import Derived.WalkMore
import Derived.WalkLawsBesides
import Derived.WalkSpells
import Derived.BigQuiet
import Derived.Deep.QuietTactic
import Derived.Lib.Hide
import Derived.Shelf.Unicode.DecodeSlow
namespace Go.Proofs.YtdcghpeomaailaaDoor
open Go.RowKit Go.Lib

/-- What the library's code reads of its own variables: internal/bytealg.MaxLen holds some int, utf8's two tables hold what their text lays. -/
structure Env (w : World) : Prop where
  maxLen : ∃ m, w.cell? ⟨0, 0, none⟩ = some (.int .i64 m)
  tabs : Go.Lib.Utf8Tabs 1 2 w

theorem Env.below {w w' : World} (h : Env w) (hb : Below w.heap.size w w') : Env w' := by
  obtain ⟨⟨m, hm⟩, ht⟩ := h
  exact ⟨⟨m, by rw [hb.cell (p := ⟨_, 0, none⟩) (World.block_lt_of_cell? _ _ hm)]; exact hm⟩, Utf8Tabs_below ht hb⟩

/-- A string's value out of its bytes. -/
abbrev S (l : Pn.B) : Value := .string ⟨l.toArray⟩

theorem below_then {w w1 w2 : World} (h : Below w.heap.size w w1) (k : Below w1.heap.size w1 w2) : Below w.heap.size w w2 := h.trans (k.mono h.size)

theorem retb {a b : Bool} (h : a = b) : Ending.returned (.bool a) = Ending.returned (.bool b) := by rw [h]
theorem reti {k : IntKind} {a b : Int} (h : a = b) : Ending.returned (.int k a) = Ending.returned (.int k b) := by rw [h]

/-- The cells from off on in block b read as these values. -/
def RowAt (w : World) (b off : Nat) (xs : List Value) : Prop := ∀ i (h : i < xs.length), w.cell? ⟨b, off + i, none⟩ = some xs[i]

theorem RowAt.below {w w' : World} {b off : Nat} {xs : List Value} (h : RowAt w b off xs) (hb : Below w.heap.size w w') (hlt : b < w.heap.size) : RowAt w' b off xs :=
  fun i hi => by rw [hb.cell (p := ⟨b, _, none⟩) hlt]; exact h i hi

/-- A slice of elements of one cell each. -/
inductive SliceAt (w : World) : Value → List Value → Prop
  | none (a : Option Addr) (cap : Nat) : SliceAt w (.slice a 0 cap) []
  | some (b off cap : Nat) (xs : List Value) : b < w.heap.size → xs.length ≤ cap → RowAt w b off xs → SliceAt w (.slice (some ⟨b, off, none⟩) xs.length cap) xs

theorem SliceAt.below {w w' : World} {v : Value} {xs : List Value} (h : SliceAt w v xs) (hb : Below w.heap.size w w') : SliceAt w' v xs := by
  cases h with
  | none a cap => exact .none a cap
  | some b off cap xs hlt hc hr => exact .some b off cap xs (Nat.lt_of_lt_of_le hlt hb.size) hc (hr.below hb hlt)

end Go.Proofs.YtdcghpeomaailaaDoor
