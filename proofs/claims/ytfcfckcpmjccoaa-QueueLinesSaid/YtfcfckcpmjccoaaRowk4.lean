/- The slice of strings that comes in, opened for QueueLines. -/
import Derived.Test.YtfcfckcpmjccoaaRowk
import Derived.Test.YtfcfckcpmjccoaaLawLines
namespace Go.Proofs.Ytfcfckcpmjccoaa
open Go.ChangeShapes Go.WideShapes Go.ChangeAt Go.RowKit Go.Deep

theorem Try.cells9 : Try.prog.cellsOf 9 = 1 := by kernel_rfl
theorem open_strs1 {H : Type} {enc : TypeId × Value → H} {W : World} {b0 base : Nat} {spare : Nat → Bool} {held : Bool} {r : Reach} {v : Value} {d : DataW H} {p : List MemPlace}
    (hv : Value.okWide Try.prog W r b0 22 v) (h : DataW.Trod enc Try.prog W base spare held 22 v d p) :
    ∃ (a : Option Addr) (len cap : Nat) (S : Nat → ByteArray), v = .slice a len cap ∧ StrsAt W a len S := by
  obtain ⟨a, len, cap, rfl⟩ := okWide_slice Try.underlying22 hv
  obtain ⟨fuel, hf⟩ := h
  rcases open_slice1 Try.underlying22 Try.cells9 hf with ⟨hc, _⟩ | ⟨a', len', cap', m, k, V, D, Pl, hc, _, hl, hm, hmm, _, hall⟩
  · simp [Value.cells] at hc
    obtain ⟨rfl, rfl, rfl⟩ := hc
    exact ⟨none, 0, 0, fun _ => ByteArray.empty, rfl, fun h => absurd h (by omega)⟩
  · simp [Value.cells] at hc
    obtain ⟨rfl, rfl, rfl⟩ := hc
    have hlm : len ≤ m := by rw [hmm]; split <;> omega
    have hx : ∀ i, ∃ x : ByteArray, (i < len → V i = .string x) := by
      intro i
      by_cases hi : i < len
      · obtain ⟨_, h0⟩ := hall i (by omega)
        obtain ⟨x, e0, _⟩ := DataW.trod_string Try.underlying9 h0
        simp at e0
        exact ⟨x, fun _ => e0⟩
      · exact ⟨ByteArray.empty, fun h => absurd h hi⟩
    obtain ⟨Q, hQ⟩ := Classical.axiomOfChoice hx
    refine ⟨some a', len, cap, Q, rfl, fun hpos => ?_⟩
    obtain ⟨g, o, sp⟩ := a'
    have hs : sp = none := by
      have h0 := (hall 0 (by omega)).1
      simpa [Addr.add] using World.cell?_spot h0
    subst hs
    refine ⟨g, o, rfl, fun i hi => ?_⟩
    have h0 := (hall i (by omega)).1
    rw [Addr.add_lit] at h0
    exact h0.trans (congrArg some (hQ i hi))
end Go.Proofs.Ytfcfckcpmjccoaa
