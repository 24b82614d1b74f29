/- The slices of bytes and of acts that come in, opened; closed facts on the program. -/
import Derived.Test.YtfcfckcpmjccoaaQI2
import Derived.Test.YtfcfckcpmjccoaaTrip
import Derived.ProofKit
import Derived.OpenShut
namespace Go.Proofs.Ytfcfckcpmjccoaa
open Go.ChangeShapes Go.WideShapes Go.ChangeAt Go.RowKit Go.Deep

theorem Try.own : ownKnob Try.prog.godebug = none := by kernel_rfl
theorem Try.laidOut : laidOutB Try.prog = true := by kernel_rfl
theorem Try.cells5 : Try.prog.cellsOf 5 = 1 := by kernel_rfl
theorem Try.cells3 : Try.prog.cellsOf 3 = 1 := by kernel_rfl
theorem Try.cells27 : Try.prog.cellsOf 27 = 1 := by kernel_rfl

/-- bytes that lie in a cell -/
theorem open_u8s {H : Type} {enc : TypeId × Value → H} {W : World} {base : Nat} {spare : Nat → Bool} {held : Bool} {fuel : Nat} {v : Value} {y : DataW H × List MemPlace}
    (hf : DataW.trod enc Try.prog W base spare held fuel 27 [v] = some y) :
    ∃ (a : Option Addr) (cap : Nat) (bs : List Int), v = .slice a bs.length cap ∧ Src W a cap bs ∧ (∀ x ∈ bs, 0 ≤ x ∧ x ≤ 255) ∧ cap ≤ 9223372036854775807 := by
  rcases open_slice1 Try.underlying27 Try.cells5 hf with ⟨hc, _⟩ | ⟨a, len, cap, m, k, V, D, Pl, hc, _, hl, hm, hmm, _, hall⟩
  · cases hc
    exact ⟨none, 0, [], rfl, ⟨Nat.le_refl _, fun h => absurd h (by simp)⟩, by simp, by omega⟩
  · cases hc
    have hlm : len ≤ m := by rw [hmm]; split <;> omega
    have hx : ∀ i, ∃ x : Int, (i < len → V i = .int .u8 x) ∧ (0 ≤ x ∧ x ≤ 255) := by
      intro i
      by_cases hi : i < len
      · obtain ⟨_, h0⟩ := hall i (by omega)
        obtain ⟨x, e0, _, w0⟩ := DataW.trod_int Try.underlying5 h0
        simp at e0
        exact ⟨x, fun _ => e0, bounds_u8 w0⟩
      · exact ⟨0, fun h => absurd h hi, by omega⟩
    refine ⟨some a, cap, (List.range len).map fun i => Classical.choose (hx i), by simp, ⟨by simpa using hl, fun _ => ⟨a, rfl, fun j u hu => ?_⟩⟩, ?_, ?_⟩
    · simp only [List.map_map, List.getElem?_map] at hu
      have hj : j < len := by
        have := (Option.map_eq_some_iff.1 hu); obtain ⟨b, hb, _⟩ := this
        have := (List.getElem?_eq_some_iff.1 hb).1; simpa using this
      rw [List.getElem?_range hj] at hu
      simp only [Option.map_some, Function.comp, Option.some.injEq] at hu
      rw [← hu, ← (Classical.choose_spec (hx j)).1 hj]
      exact (hall j (by omega)).1
    · intro x hx'
      obtain ⟨i, _, rfl⟩ := List.mem_map.1 hx'
      exact (Classical.choose_spec (hx i)).2
    · have : maxLen = 9223372036854775807 := rfl
      omega
theorem open_bytes {H : Type} {enc : TypeId × Value → H} {W : World} {b0 base : Nat} {spare : Nat → Bool} {held : Bool} {r : Reach} {v : Value} {d : DataW H} {p : List MemPlace}
    (hv : Value.okWide Try.prog W r b0 27 v) (h : DataW.Trod enc Try.prog W base spare held 27 v d p) :
    ∃ (a : Option Addr) (cap : Nat) (bs : List Int), v = .slice a bs.length cap ∧ Src W a cap bs ∧ (∀ x ∈ bs, 0 ≤ x ∧ x ≤ 255) ∧ cap ≤ 9223372036854775807 := by
  obtain ⟨a, len, cap, rfl⟩ := okWide_slice Try.underlying27 hv
  obtain ⟨fuel, hf⟩ := h
  exact open_u8s (v := .slice a len cap) (by simpa [Value.cells] using hf)
end Go.Proofs.Ytfcfckcpmjccoaa
