/- The acts that come in, opened. -/
import Derived.Test.YtfcfckcpmjccoaaRowk
import Derived.Test.YtfcfckcpmjccoaaLawPlays
namespace Go.Proofs.Ytfcfckcpmjccoaa
open Go.ChangeShapes Go.WideShapes Go.ChangeAt Go.RowKit Go.Deep

theorem Try.cells41 : Try.prog.cellsOf 41 = 3 := by kernel_rfl

theorem open_acts {H : Type} {enc : TypeId × Value → H} {W : World} {b0 base : Nat} {spare : Nat → Bool} {held : Bool} {r : Reach} {v : Value} {d : DataW H} {p : List MemPlace}
    (hv : Value.okWide Try.prog W r b0 36 v) (h : DataW.Trod enc Try.prog W base spare held 36 v d p) :
    ∃ (a : Option Addr) (len cap : Nat) (K N : Nat → Int) (A : Nat → Option Addr) (C : Nat → Nat) (B : Nat → List Int), v = .slice a len cap ∧ QActs W a len K N A C B ∧ (∀ i, 0 ≤ K i ∧ K i ≤ 255) ∧ (∀ i, ∀ x ∈ B i, 0 ≤ x ∧ x ≤ 255) := by
  obtain ⟨a, len, cap, rfl⟩ := okWide_slice Try.underlying36 hv
  obtain ⟨fuel, hf⟩ := h
  rcases open_slice_triples Try.underlying36 Try.underlying41 Try.cells41 rfl rfl rfl Try.cells5 Try.cells27 Try.cells3 hf with hc | ⟨a', len', cap', m, k, V0, V1, V2, Y0, Y1, Y2, hc, _, hl, hm, hlm, hall⟩
  · simp [Value.cells] at hc
    obtain ⟨rfl, rfl, rfl⟩ := hc
    exact ⟨none, 0, 0, fun _ => 0, fun _ => 0, fun _ => none, fun _ => 0, fun _ => [], rfl, fun h => absurd h (by omega), fun _ => ⟨Int.le_refl 0, by show (0 : Int) ≤ 255; omega⟩, fun _ x hx => by cases hx⟩
  · simp [Value.cells] at hc
    obtain ⟨rfl, rfl, rfl⟩ := hc
    have hx : ∀ i, ∃ q : Int × Int × Option Addr × Nat × List Int, (i < len → V0 i = .int .u8 q.1 ∧ V1 i = .slice q.2.2.1 q.2.2.2.2.length q.2.2.2.1 ∧ V2 i = .int .i64 q.2.1 ∧ Src W q.2.2.1 q.2.2.2.1 q.2.2.2.2) ∧ (0 ≤ q.1 ∧ q.1 ≤ 255) ∧ (∀ x ∈ q.2.2.2.2, 0 ≤ x ∧ x ≤ 255) := by
      intro i
      by_cases hi : i < len
      · obtain ⟨_, _, _, h0, h1, h2⟩ := hall i (by omega)
        obtain ⟨x, e0, _, w0⟩ := DataW.trod_int Try.underlying5 h0
        obtain ⟨ad, c, bs, e1, s1, b1, _⟩ := open_u8s h1
        obtain ⟨y, e2, _, w2⟩ := DataW.trod_int Try.underlying3 h2
        simp at e0 e2
        exact ⟨(x, y, ad, c, bs), fun _ => ⟨e0, e1, e2, s1⟩, bounds_u8 w0, b1⟩
      · exact ⟨(0, 0, none, 0, []), fun h => absurd h hi, by simp, by simp⟩
    obtain ⟨Q, hQ⟩ := Classical.axiomOfChoice hx
    refine ⟨some a', len, cap, fun i => (Q i).1, fun i => (Q i).2.1, fun i => (Q i).2.2.1, fun i => (Q i).2.2.2.1, fun i => (Q i).2.2.2.2, rfl, ?_, fun i => (hQ i).2.1, fun i => (hQ i).2.2⟩
    intro hpos
    obtain ⟨g, o, sp⟩ := a'
    have hs : sp = none := by
      have h0 := (hall 0 (by omega)).1
      simpa [Addr.add] using World.cell?_spot h0
    subst hs
    refine ⟨g, o, rfl, fun i hi => ?_⟩
    obtain ⟨h0, h1, h2, _, _, _⟩ := hall i (by omega)
    obtain ⟨e0, e1, e2, s⟩ := (hQ i).1 hi
    rw [Addr.add_lit] at h0 h1 h2
    rw [← Nat.add_assoc] at h1 h2
    exact ⟨h0.trans (congrArg some e0), h1.trans (congrArg some e1), h2.trans (congrArg some e2), s⟩
end Go.Proofs.Ytfcfckcpmjccoaa
