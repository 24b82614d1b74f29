/- The slices of bytes and of numbers that come in, opened for QueueFlows. -/
import Derived.Test.YtfcfckcpmjccoaaRowk
import Derived.Test.YtfcfckcpmjccoaaLawFlows
namespace Go.Proofs.Ytfcfckcpmjccoaa
open Go.ChangeShapes Go.WideShapes Go.ChangeAt Go.RowKit Go.Deep

theorem open_bytes2 {H : Type} {enc : TypeId × Value → H} {W : World} {b0 base : Nat} {spare : Nat → Bool} {held : Bool} {r : Reach} {v : Value} {d : DataW H} {p : List MemPlace}
    (hv : Value.okWide Try.prog W r b0 27 v) (h : DataW.Trod enc Try.prog W base spare held 27 v d p) :
    ∃ (a : Option Addr) (cap : Nat) (bs : List Int), v = .slice a bs.length cap ∧ Src W a cap bs ∧ (a = none → cap = 0) ∧ (∀ x ∈ bs, 0 ≤ x ∧ x ≤ 255) := by
  obtain ⟨a, cap, bs, hva, hS, hb, _⟩ := open_bytes hv h
  obtain ⟨fuel, hf⟩ := h
  refine ⟨a, cap, bs, hva, hS, fun ha => ?_, hb⟩
  subst ha
  subst hva
  rcases open_slice1 Try.underlying27 Try.cells5 hf with ⟨hc, _⟩ | ⟨a, len, cap, m, k, V, D, Pl, hc, _⟩
  · simp [Value.cells] at hc
    exact hc.2
  · simp [Value.cells] at hc
theorem open_ints {H : Type} {enc : TypeId × Value → H} {W : World} {b0 base : Nat} {spare : Nat → Bool} {held : Bool} {r : Reach} {v : Value} {d : DataW H} {p : List MemPlace}
    (hv : Value.okWide Try.prog W r b0 32 v) (h : DataW.Trod enc Try.prog W base spare held 32 v d p) :
    ∃ (a : Option Addr) (len cap : Nat) (V : Nat → Int), v = .slice a len cap ∧ IntsAt W a len V := by
  obtain ⟨a, len, cap, rfl⟩ := okWide_slice Try.underlying32 hv
  obtain ⟨fuel, hf⟩ := h
  rcases open_slice1 Try.underlying32 Try.cells3 hf with ⟨hc, _⟩ | ⟨a', len', cap', m, k, V, D, Pl, hc, _, hl, hm, hmm, _, hall⟩
  · simp [Value.cells] at hc
    obtain ⟨rfl, rfl, rfl⟩ := hc
    exact ⟨none, 0, 0, fun _ => 0, rfl, fun h => absurd h (by omega)⟩
  · simp [Value.cells] at hc
    obtain ⟨rfl, rfl, rfl⟩ := hc
    have hlm : len ≤ m := by rw [hmm]; split <;> omega
    have hx : ∀ i, ∃ x : Int, (i < len → V i = .int .i64 x) := by
      intro i
      by_cases hi : i < len
      · obtain ⟨_, h0⟩ := hall i (by omega)
        obtain ⟨x, e0, _, _⟩ := DataW.trod_int Try.underlying3 h0
        simp at e0
        exact ⟨x, fun _ => e0⟩
      · exact ⟨0, fun h => absurd h hi⟩
    obtain ⟨Q, hQ⟩ := Classical.axiomOfChoice hx
    refine ⟨some a', len, cap, Q, rfl, fun hpos => ?_⟩
    obtain ⟨g, o, sp⟩ := a'
    have hs : sp = none := by
      have h0 := (hall 0 (by omega)).1
      simpa [Addr.add] using World.cell?_spot h0
    subst hs
    refine ⟨g, o, rfl, fun i hi => ?_⟩
    have h0 := (hall i (by omega)).1
    rw [Addr.add_lit] at h0
    exact h0.trans (congrArg some (hQ i hi))
end Go.Proofs.Ytfcfckcpmjccoaa
