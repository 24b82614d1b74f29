/- The acts that come in, opened; two closed facts on the program. -/
import Derived.Test.YtacnphokgggmdaaLawBounds
import Derived.ProofKit
import Derived.OpenShut
import Derived.Deep.SlicePairs
namespace Go.Proofs.Ytacnphokgggmdaa
open Go.ChangeShapes Go.WideShapes Go.ChangeAt Go.RowKit Go.Deep

theorem Try.own : ownKnob Try.prog.godebug = none := by kernel_rfl
theorem Try.laidOut : laidOutB Try.prog = true := by kernel_rfl
theorem Try.cells27 : Try.prog.cellsOf 27 = 2 := by kernel_rfl
theorem Try.cells5 : Try.prog.cellsOf 5 = 1 := by kernel_rfl
theorem Try.cells3 : Try.prog.cellsOf 3 = 1 := by kernel_rfl

theorem open_acts {H : Type} {enc : TypeId × Value → H} {W : World} {b0 base : Nat} {spare : Nat → Bool} {held : Bool} {r : Reach} {v : Value} {d : DataW H} {p : List MemPlace}
    (hv : Value.okWide Try.prog W r b0 22 v) (h : DataW.Trod enc Try.prog W base spare held 22 v d p) :
    ∃ (a : Option Addr) (len cap : Nat) (K N : Nat → Int), v = .slice a len cap ∧ Acts W a len K N ∧ (∀ i, 0 ≤ K i ∧ K i ≤ 255) ∧ (∀ i, -9223372036854775808 ≤ N i ∧ N i ≤ 9223372036854775807) ∧ len ≤ 9223372036854775807 := by
  obtain ⟨a, len, cap, rfl⟩ := okWide_slice Try.underlying22 hv
  obtain ⟨fuel, hf⟩ := h
  rcases open_slice_pairs Try.underlying22 Try.underlying27 Try.cells27 rfl rfl Try.cells5 Try.cells3 hf with ⟨hc, _⟩ | ⟨a', len', cap', m, k, V0, V1, D0, D1, P0, P1, hc, _, hl, hm, hmm, _, hall⟩
  · simp [Value.cells] at hc
    obtain ⟨rfl, rfl, rfl⟩ := hc
    exact ⟨none, 0, 0, fun _ => 0, fun _ => 0, rfl, fun h => absurd h (by omega), fun _ => ⟨Int.le_refl 0, by show (0 : Int) ≤ 255; omega⟩, fun _ => ⟨by show (-9223372036854775808 : Int) ≤ 0; omega, by show (0 : Int) ≤ 9223372036854775807; omega⟩, by omega⟩
  · simp [Value.cells] at hc
    obtain ⟨rfl, rfl, rfl⟩ := hc
    have hlm : len ≤ m := by rw [hmm]; split <;> omega
    have hx : ∀ i, ∃ x y : Int, (i < len → V0 i = .int .u8 x ∧ V1 i = .int .i64 y) ∧ (0 ≤ x ∧ x ≤ 255) ∧ (-9223372036854775808 ≤ y ∧ y ≤ 9223372036854775807) := by
      intro i
      by_cases hi : i < len
      · obtain ⟨_, _, h0, h1⟩ := hall i (by omega)
        obtain ⟨x, e0, _, w0⟩ := DataW.trod_int Try.underlying5 h0
        obtain ⟨y, e1, _, w1⟩ := DataW.trod_int Try.underlying3 h1
        simp at e0 e1
        exact ⟨x, y, fun _ => ⟨e0, e1⟩, bounds_u8 w0, bounds_i64 w1⟩
      · exact ⟨0, 0, fun h => absurd h hi, by omega, by omega⟩
    refine ⟨some a', len, cap, fun i => Classical.choose (hx i), fun i => Classical.choose (Classical.choose_spec (hx i)), rfl, ?_, ?_, ?_, ?_⟩
    · intro hpos
      obtain ⟨g, o, sp⟩ := a'
      have hs : sp = none := by
        have h0 := (hall 0 (by omega)).1
        simpa [Addr.add] using World.cell?_spot h0
      subst hs
      refine ⟨g, o, rfl, fun i hi => ?_⟩
      obtain ⟨h0, h1, _, _⟩ := hall i (by omega)
      obtain ⟨e, _, _⟩ := Classical.choose_spec (Classical.choose_spec (hx i))
      obtain ⟨e0, e1⟩ := e hi
      rw [Addr.add_lit] at h0 h1
      rw [← Nat.add_assoc] at h1
      exact ⟨h0.trans (congrArg some e0), h1.trans (congrArg some e1)⟩
    · intro i; exact (Classical.choose_spec (Classical.choose_spec (hx i))).2.1
    · intro i; exact (Classical.choose_spec (Classical.choose_spec (hx i))).2.2
    · have : maxLen = 9223372036854775807 := rfl
      omega
end Go.Proofs.Ytacnphokgggmdaa
