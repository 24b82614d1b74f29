/- A candidate that comes in by value, opened. -/
import Derived.Test.YthfchjcbkmabpaaRowk
namespace Go.Proofs.Ythfchjcbkmabpaa
open Go.ChangeShapes Go.WideShapes Go.ChangeAt Go.RowKit Go.Deep

theorem open_one {H : Type} {enc : TypeId × Value → H} {W : World} {b0 base : Nat} {spare : Nat → Bool} {held : Bool} {r : Reach} {v : Value} {d : DataW H} {p : List MemPlace}
    (hv : Value.okWide Try.prog W r b0 34 v) (h : DataW.Trod enc Try.prog W base spare held 34 v d p) :
    ∃ c : Cnd, v = c.val ∧ c.at W := by
  obtain ⟨cs, rfl, hsz⟩ := okWide_struct Try.underlying34 hv
  rw [Try.cells34] at hsz
  obtain ⟨fuel, hf⟩ := h
  obtain ⟨c, e, hat⟩ := open_cand (cs := cs.toList) (by simpa using hsz) hf
  refine ⟨c, ?_, hat⟩
  unfold Cnd.val
  rw [← e]
end Go.Proofs.Ythfchjcbkmabpaa
