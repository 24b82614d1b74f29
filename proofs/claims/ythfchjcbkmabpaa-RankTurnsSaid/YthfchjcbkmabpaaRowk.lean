/- The candidates that come in, opened: each with its path. -/
import Derived.Test.YthfchjcbkmabpaaRC
import Derived.ProofKit
import Derived.OpenShut
import Derived.Deep.Slices
namespace Go.Proofs.Ythfchjcbkmabpaa
open Go.ChangeShapes Go.WideShapes Go.ChangeAt Go.RowKit Go.Deep

theorem Try.own : ownKnob Try.prog.godebug = none := by kernel_rfl
theorem Try.laidOut : laidOutB Try.prog = true := by kernel_rfl
theorem Try.cells45 : Try.prog.cellsOf 45 = 2 := by kernel_rfl
theorem Try.cells34 : Try.prog.cellsOf 34 = 16 := by kernel_rfl
theorem Try.cells32 : Try.prog.cellsOf 32 = 11 := by kernel_rfl
theorem Try.cells28 : Try.prog.cellsOf 28 = 1 := by kernel_rfl
theorem Try.cells27 : Try.prog.cellsOf 27 = 1 := by kernel_rfl
theorem Try.cells29 : Try.prog.cellsOf 29 = 1 := by kernel_rfl
theorem Try.cells30 : Try.prog.cellsOf 30 = 1 := by kernel_rfl
theorem Try.cells3 : Try.prog.cellsOf 3 = 1 := by kernel_rfl
theorem Try.cells4 : Try.prog.cellsOf 4 = 1 := by kernel_rfl

section
variable {H : Type} {enc : TypeId × Value → H} {W : World} {base : Nat} {spare : Nat → Bool} {held : Bool}
theorem open_any_slice {t e : TypeId} (ht : Try.prog.underlying t = some (.slice e)) {fuel : Nat} {v : Value} {y : DataW H × List MemPlace} (hf : DataW.trod enc Try.prog W base spare held fuel t [v] = some y) :
    ∃ (a : Option Addr) (n cap : Nat), v = .slice a n cap := by
  rcases open_slice ht hf with ⟨hc, _⟩ | ⟨a, len, cap, m, k, D, Pl, hc, _⟩
  · cases hc; exact ⟨none, 0, 0, rfl⟩
  · cases hc; exact ⟨some a, len, cap, rfl⟩
theorem open_seg {fuel : Nat} {cs : List Value} (hl : cs.length = 2) {y : DataW H × List MemPlace} (hf : DataW.trod enc Try.prog W base spare held fuel 45 cs = some y) : ∃ s : Seg, cs = s.cells := by
  match cs, hl with
  | [v0, v1], _ =>
    obtain ⟨xs, k, _, _, _, hxl, hx⟩ := DataW.trod_struct Try.underlying45 hf
    match xs, hxl with
    | [y0, y1], _ =>
      have g0 := hx 0 _ rfl
      have g1 := hx 1 _ rfl
      simp [Try.cells3, Try.cells29] at g0 g1
      obtain ⟨a0, e0, _⟩ := DataW.trod_int Try.underlying3 g0
      obtain ⟨a, n, c, e1⟩ := open_any_slice Try.underlying29 g1
      simp at e0
      subst e0 e1
      exact ⟨⟨a0, a, n, c⟩, rfl⟩
theorem open_segs {fuel : Nat} {v : Value} {y : DataW H × List MemPlace} (hf : DataW.trod enc Try.prog W base spare held fuel 28 [v] = some y) :
    ∃ (a : Option Addr) (n cap : Nat) (S : List Seg), v = .slice a n cap ∧ PathV W a n S := by
  rcases open_slice Try.underlying28 hf with ⟨hc, _⟩ | ⟨a', len, cap, m, k, D, Pl, hc, _, hl, hm, hmm, _, hall⟩
  · cases hc
    exact ⟨none, 0, 0, [], rfl, rfl, fun h => absurd h (by decide)⟩
  · cases hc
    have hlm : len ≤ m := by rw [hmm]; split <;> omega
    have hx : ∀ i, ∃ q : Seg, i < len → ∀ j u, q.cells[j]? = some u → W.cell? ((a'.add (i * 2)).add j) = some u := by
      intro i
      by_cases hi : i < len
      · obtain ⟨cs', h1, h2⟩ := hall i (by omega)
        rw [Try.cells45] at h1
        obtain ⟨_, hlen, hcell⟩ := World.cells?_some h1
        obtain ⟨q, e⟩ := open_seg hlen h2
        refine ⟨q, fun _ j u hu => ?_⟩
        have hj : j < 2 := by rw [← hlen, e]; exact (List.getElem?_eq_some_iff.1 hu).1
        rw [hcell j hj, e]
        exact hu
      · exact ⟨⟨0, none, 0, 0⟩, fun h => absurd h hi⟩
    obtain ⟨Q, hQ⟩ := Classical.axiomOfChoice hx
    refine ⟨some a', len, cap, (List.range len).map Q, rfl, by simp, fun hpos => ?_⟩
    obtain ⟨g, o, sp⟩ := a'
    have hs : sp = none := by
      have h0 := hQ 0 hpos 0 _ rfl
      rw [add_add] at h0
      simpa [Addr.add] using World.cell?_spot h0
    subst hs
    refine ⟨g, o, rfl, fun i hi j u hu => ?_⟩
    simp only [List.length_map, List.length_range] at hi
    simp only [List.getElem_map, List.getElem_range] at hu
    have := hQ i hi j u hu
    rw [add_add, Addr.add_lit] at this
    rw [Nat.add_assoc]
    exact this
theorem open_cand {fuel : Nat} {cs : List Value} (hl : cs.length = 16) {y : DataW H × List MemPlace} (hf : DataW.trod enc Try.prog W base spare held fuel 34 cs = some y) :
    ∃ c : Cnd, cs = c.cells ∧ c.at W := by
  match cs, hl with
  | [v0, v1, v2, v3, v4, v5, v6, v7, v8, v9, v10, v11, v12, v13, v14, v15], _ =>
    obtain ⟨xs, k, _, _, _, hxl, hx⟩ := DataW.trod_struct Try.underlying34 hf
    match xs, hxl with
    | [y0, y1, y2, y3, y4, y5], _ =>
      have g0 := hx 0 _ rfl
      have g1 := hx 1 _ rfl
      have g2 := hx 2 _ rfl
      have g3 := hx 3 _ rfl
      have g4 := hx 4 _ rfl
      have g5 := hx 5 _ rfl
      simp [Try.cells3, Try.cells32, Try.cells27, Try.cells4] at g0 g1 g2 g3 g4 g5
      obtain ⟨a0, e0, _⟩ := DataW.trod_int Try.underlying3 g0
      obtain ⟨a1, e1, _⟩ := DataW.trod_bool Try.underlying4 g1
      obtain ⟨a2, e2, _⟩ := DataW.trod_int Try.underlying27 g2
      obtain ⟨a3, e3, _⟩ := DataW.trod_int Try.underlying27 g3
      obtain ⟨a4, e4, _⟩ := DataW.trod_int Try.underlying27 g4
      simp at e0 e1 e2 e3 e4
      obtain ⟨zs, k2, _, _, _, hzl, hz⟩ := DataW.trod_struct Try.underlying32 g5
      match zs, hzl with
      | [z0, z1, z2, z3, z4, z5, z6, z7, z8, z9, z10], _ =>
        have q0 := hz 0 _ rfl
        have q1 := hz 1 _ rfl
        have q2 := hz 2 _ rfl
        have q3 := hz 3 _ rfl
        have q4 := hz 4 _ rfl
        have q5 := hz 5 _ rfl
        have q6 := hz 6 _ rfl
        have q7 := hz 7 _ rfl
        have q8 := hz 8 _ rfl
        have q9 := hz 9 _ rfl
        have q10 := hz 10 _ rfl
        simp [Try.cells3, Try.cells28, Try.cells29, Try.cells30, Try.cells27, Try.cells4] at q0 q1 q2 q3 q4 q5 q6 q7 q8 q9 q10
        obtain ⟨b0, f0, _⟩ := DataW.trod_int Try.underlying3 q0
        obtain ⟨pa, pl, pc, S, f1, hS⟩ := open_segs q1
        obtain ⟨b2, f2, _⟩ := DataW.trod_int Try.underlying27 q2
        obtain ⟨b3, f3, _⟩ := DataW.trod_int Try.underlying3 q3
        obtain ⟨b4, f4, _⟩ := DataW.trod_int Try.underlying3 q4
        obtain ⟨b5, f5, _⟩ := DataW.trod_bool Try.underlying4 q5
        obtain ⟨b6, f6, _⟩ := DataW.trod_bool Try.underlying4 q6
        obtain ⟨b7, f7, _⟩ := DataW.trod_int Try.underlying27 q7
        obtain ⟨b8, f8, _⟩ := DataW.trod_int Try.underlying27 q8
        obtain ⟨ca, cl, cc, f9⟩ := open_any_slice Try.underlying29 q9
        obtain ⟨ra, rl, rc, f10⟩ := open_any_slice Try.underlying30 q10
        simp at f0 f2 f3 f4 f5 f6 f7 f8
        subst e0 e1 e2 e3 e4 f0 f1 f2 f3 f4 f5 f6 f7 f8 f9 f10
        exact ⟨⟨a0, a1, a2, a3, a4, b0, pa, pl, pc, b2, b3, b4, b5, b6, b7, b8, ca, cl, cc, ra, rl, rc, S⟩, rfl, hS⟩
end
theorem open_cands {H : Type} {enc : TypeId × Value → H} {W : World} {b0 base : Nat} {spare : Nat → Bool} {held : Bool} {r : Reach} {v : Value} {d : DataW H} {p : List MemPlace}
    (hv : Value.okWide Try.prog W r b0 22 v) (h : DataW.Trod enc Try.prog W base spare held 22 v d p) :
    ∃ (a : Option Addr) (n cap : Nat) (L : List Cnd), v = .slice a n cap ∧ CandsV W a n L := by
  obtain ⟨a, len, cap, rfl⟩ := okWide_slice Try.underlying22 hv
  obtain ⟨fuel, hf⟩ := h
  rcases open_slice Try.underlying22 hf with ⟨hc, _⟩ | ⟨a', len', cap', m, k, D, Pl, hc, _, hl, hm, hmm, _, hall⟩
  · simp [Value.cells] at hc
    obtain ⟨rfl, rfl, rfl⟩ := hc
    exact ⟨none, 0, 0, [], rfl, rfl, fun h => absurd h (by decide), fun c hc => absurd hc (by simp)⟩
  · simp [Value.cells] at hc
    obtain ⟨rfl, rfl, rfl⟩ := hc
    have hlm : len ≤ m := by rw [hmm]; split <;> omega
    have hx : ∀ i, ∃ q : Cnd, i < len → (∀ j u, q.cells[j]? = some u → W.cell? ((a'.add (i * 16)).add j) = some u) ∧ q.at W := by
      intro i
      by_cases hi : i < len
      · obtain ⟨cs', h1, h2⟩ := hall i (by omega)
        rw [Try.cells34] at h1
        obtain ⟨_, hlen, hcell⟩ := World.cells?_some h1
        obtain ⟨q, e, hat⟩ := open_cand hlen h2
        refine ⟨q, fun _ => ⟨fun j u hu => ?_, hat⟩⟩
        have hj : j < 16 := by rw [← hlen, e]; exact (List.getElem?_eq_some_iff.1 hu).1
        rw [hcell j hj, e]
        exact hu
      · exact ⟨cnd0, fun h => absurd h hi⟩
    obtain ⟨Q, hQ⟩ := Classical.axiomOfChoice hx
    refine ⟨some a', len, cap, (List.range len).map Q, rfl, by simp, fun hpos => ?_, fun c hc => ?_⟩
    · obtain ⟨g, o, sp⟩ := a'
      have hs : sp = none := by
        have h0 := (hQ 0 hpos).1 0 _ rfl
        rw [add_add] at h0
        simpa [Addr.add] using World.cell?_spot h0
      subst hs
      refine ⟨g, o, rfl, fun i hi j u hu => ?_⟩
      simp only [List.length_map, List.length_range] at hi
      simp only [List.getElem_map, List.getElem_range] at hu
      have := (hQ i hi).1 j u hu
      rw [add_add, Addr.add_lit] at this
      rw [Nat.add_assoc]
      exact this
    · obtain ⟨i, hi, rfl⟩ := List.mem_map.1 hc
      exact (hQ i (List.mem_range.1 hi)).2
end Go.Proofs.Ythfchjcbkmabpaa
