/- Acts that come in, opened once more: their lists are numbers. -/
import Derived.Test.YtkmhdffkganhaaaRowk2
import Derived.Test.YtkmhdffkganhaaaCS
namespace Go.Proofs.Ytkmhdffkganhaaa
open Go.ChangeShapes Go.WideShapes Go.ChangeAt Go.RowKit Go.Deep

def SrcU (w : World) (a : Option Addr) (n : Nat) (ys : List Int) : Prop := SrcV w a n (U32s ys)
def ActsU (w : World) (a : Option Addr) (len : Nat) (A : Nat → ActC) (X : Nat → List Int) : Prop :=
  0 < len → ∃ g o, a = some ⟨g, o, none⟩ ∧ ∀ i, i < len → w.rangeAt g (o + i * 21) (A i).cells ∧ SrcU w (A i).c.ca (A i).c.cl (X i) ∧ ((A i).c.ca = none → (A i).c.cl = 0 ∧ (A i).c.cc = 0) ∧ (0 ≤ (A i).kind ∧ (A i).kind ≤ 255)
theorem ActsU.acts {w : World} {a : Option Addr} {len : Nat} {A : Nat → ActC} {X : Nat → List Int} (h : ActsU w a len A X) : ActsC w a len A (fun i => U32s (X i)) := h
section
variable {H : Type} {enc : TypeId × Value → H} {W : World} {base : Nat} {spare : Nat → Bool} {held : Bool}
theorem open_u32s2 {fuel : Nat} {v : Value} {y : DataW H × List MemPlace} (hf : DataW.trod enc Try.prog W base spare held fuel 30 [v] = some y) :
    ∃ (a : Option Addr) (n cap : Nat) (xs : List Int), v = .slice a n cap ∧ SrcU W a n xs ∧ (a = none → n = 0 ∧ cap = 0) := by
  rcases open_slice1 Try.underlying30 Try.cells27 hf with ⟨hc, _⟩ | ⟨a, len, cap, m, k, V, D, Pl, hc, _, hl, hm, hmm, _, hall⟩
  · cases hc
    exact ⟨none, 0, 0, [], rfl, srcV_none _, fun _ => ⟨rfl, rfl⟩⟩
  · cases hc
    have hlm : len ≤ m := by rw [hmm]; split <;> omega
    have hV : ∀ i, ∃ x : Int, i < len → V i = .int .u32 x := fun i => by
      by_cases hi : i < len
      · obtain ⟨_, h0⟩ := hall i (by omega)
        obtain ⟨x, e0, _⟩ := DataW.trod_int Try.underlying27 h0
        simp at e0
        exact ⟨x, fun _ => e0⟩
      · exact ⟨0, fun h => absurd h hi⟩
    obtain ⟨Y, hY⟩ := Classical.axiomOfChoice hV
    refine ⟨some a, len, cap, (List.range len).map Y, rfl, ⟨by simp [U32s], fun u hu => ?_, fun _ => ⟨a, rfl, fun j u hu => ?_⟩⟩, fun h => by cases h⟩
    · simp [U32s] at hu
      obtain ⟨i, hi, rfl⟩ := hu
      rfl
    · have hj : j < len := by
        have := (List.getElem?_eq_some_iff.1 hu).1
        simpa [U32s] using this
      have hu' : (Value.int .u32 (Y j)) = u := by
        simp [U32s, hj] at hu
        exact hu
      rw [← hu', ← hY j hj]
      exact (hall j (by omega)).1
theorem open_cur2 {fuel : Nat} {v0 v1 v2 v3 v4 v5 v6 v7 v8 v9 v10 v11 v12 v13 v14 v15 : Value} {y : DataW H × List MemPlace} (hf : DataW.trod enc Try.prog W base spare held fuel 34 [v0, v1, v2, v3, v4, v5, v6, v7, v8, v9, v10, v11, v12, v13, v14, v15] = some y) :
    ∃ (c : Cur) (xs : List Int), [v0, v1, v2, v3, v4, v5, v6, v7, v8, v9, v10, v11, v12, v13, v14, v15] = c.cells ∧ SrcU W c.ca c.cl xs ∧ (c.ca = none → c.cl = 0 ∧ c.cc = 0) := by
  obtain ⟨xs, k, _, _, _, hxl, hx⟩ := DataW.trod_struct Try.underlying34 hf
  match xs, hxl with
  | [y0, y1, y2, y3, y4, y5], _ =>
    have g0 := hx 0 _ rfl
    have g1 := hx 1 _ rfl
    have g2 := hx 2 _ rfl
    have g3 := hx 3 _ rfl
    have g4 := hx 4 _ rfl
    have g5 := hx 5 _ rfl
    simp [Try.cells3, Try.cells32, Try.cells29] at g0 g1 g2 g3 g4 g5
    obtain ⟨a0, e0, _⟩ := DataW.trod_int Try.underlying3 g0
    obtain ⟨a1, e1, _⟩ := DataW.trod_int Try.underlying3 g1
    obtain ⟨a2, e2, _⟩ := DataW.trod_int Try.underlying3 g2
    obtain ⟨a13, a14, e13, e14⟩ := open_pfx g4
    obtain ⟨a15, e15, _⟩ := DataW.trod_int Try.underlying3 g5
    simp at e0 e1 e2 e15
    obtain ⟨zs, k2, _, _, _, hzl, hz⟩ := DataW.trod_struct Try.underlying32 g3
    match zs, hzl with
    | [z0, z1, z2, z3, z4, z5, z6, z7, z8], _ =>
      have q0 := hz 0 _ rfl
      have q1 := hz 1 _ rfl
      have q2 := hz 2 _ rfl
      have q3 := hz 3 _ rfl
      have q4 := hz 4 _ rfl
      have q5 := hz 5 _ rfl
      have q6 := hz 6 _ rfl
      have q7 := hz 7 _ rfl
      have q8 := hz 8 _ rfl
      simp [Try.cells3, Try.cells29, Try.cells9, Try.cells30, Try.cells4] at q0 q1 q2 q3 q4 q5 q6 q7 q8
      obtain ⟨b0, f0, _⟩ := DataW.trod_int Try.underlying3 q0
      obtain ⟨b1, f1, _⟩ := DataW.trod_int Try.underlying3 q1
      obtain ⟨b2, b3, f2, f3⟩ := open_pfx q2
      obtain ⟨b4, f4, _⟩ := DataW.trod_int Try.underlying3 q3
      obtain ⟨b5, f5, _⟩ := DataW.trod_int Try.underlying3 q4
      obtain ⟨b6, f6, _⟩ := DataW.trod_string Try.underlying9 q5
      obtain ⟨ca, cl, cc, ys, f7, hS, hca⟩ := open_u32s2 q6
      obtain ⟨b8, f8, _⟩ := DataW.trod_int Try.underlying3 q7
      obtain ⟨b9, f9, _⟩ := DataW.trod_bool Try.underlying4 q8
      simp at f0 f1 f4 f5 f6 f8 f9
      subst e0 e1 e2 e13 e14 e15 f0 f1 f2 f3 f4 f5 f6 f7 f8 f9
      exact ⟨{ id := a0, owner := a1, ver := a2, kind := b0, mode := b1, pa := b2, pl := b3, tab := b4, peer := b5, rx := b6, ca := ca, cl := cl, cc := cc, cur := b8, out := b9, aa := a13, al := a14, age := a15 }, ys, rfl, hS, hca⟩
theorem open_act2 {fuel : Nat} {cs : List Value} (hl : cs.length = 21) {y : DataW H × List MemPlace} (hf : DataW.trod enc Try.prog W base spare held fuel 44 cs = some y) :
    ∃ (a : ActC) (xs : List Int), cs = a.cells ∧ SrcU W a.c.ca a.c.cl xs ∧ (a.c.ca = none → a.c.cl = 0 ∧ a.c.cc = 0) ∧ (0 ≤ a.kind ∧ a.kind ≤ 255) := by
  match cs, hl with
  | [v0, v1, v2, v3, v4, v5, v6, v7, v8, v9, v10, v11, v12, v13, v14, v15, v16, v17, v18, v19, v20], _ =>
    obtain ⟨xs, k, _, _, _, hxl, hx⟩ := DataW.trod_struct Try.underlying44 hf
    match xs, hxl with
    | [y0, y1, y2, y3, y4], _ =>
      have g0 := hx 0 _ rfl
      have g1 := hx 1 _ rfl
      have g2 := hx 2 _ rfl
      have g3 := hx 3 _ rfl
      have g4 := hx 4 _ rfl
      simp [Try.cells5, Try.cells34, Try.cells3, Try.cells29] at g0 g1 g2 g3 g4
      obtain ⟨a0, e0, _, w0⟩ := DataW.trod_int Try.underlying5 g0
      obtain ⟨c, ys, ec, hS, hca⟩ := open_cur2 g1
      obtain ⟨a2, e2, _⟩ := DataW.trod_int Try.underlying3 g2
      obtain ⟨a3, e3, _⟩ := DataW.trod_int Try.underlying3 g3
      obtain ⟨a4, a5, e4, e5⟩ := open_pfx g4
      simp at e0 e2 e3
      subst e0 e2 e3 e4 e5
      refine ⟨{ kind := a0, c := c, owner := a2, id := a3, aa := a4, al := a5 }, ys, ?_, hS, hca, bounds_u8 w0⟩
      unfold ActC.cells
      rw [← ec]
      rfl
end
theorem open_acts2 {H : Type} {enc : TypeId × Value → H} {W : World} {b0 base : Nat} {spare : Nat → Bool} {held : Bool} {r : Reach} {v : Value} {d : DataW H} {p : List MemPlace}
    (hv : Value.okWide Try.prog W r b0 41 v) (h : DataW.Trod enc Try.prog W base spare held 41 v d p) :
    ∃ (a : Option Addr) (len cap : Nat) (A : Nat → ActC) (X : Nat → List Int), v = .slice a len cap ∧ ActsU W a len A X := by
  obtain ⟨a, len, cap, rfl⟩ := okWide_slice Try.underlying41 hv
  obtain ⟨fuel, hf⟩ := h
  rcases open_slice Try.underlying41 hf with ⟨hc, _⟩ | ⟨a', len', cap', m, k, D, Pl, hc, _, hl, hm, hmm, _, hall⟩
  · simp [Value.cells] at hc
    obtain ⟨rfl, rfl, rfl⟩ := hc
    exact ⟨none, 0, 0, fun _ => ⟨0, cur0 0, 0, 0, 0, 0⟩, fun _ => [], rfl, fun h => absurd h (by omega)⟩
  · simp [Value.cells] at hc
    obtain ⟨rfl, rfl, rfl⟩ := hc
    have hlm : len ≤ m := by rw [hmm]; split <;> omega
    have hx : ∀ i, ∃ q : ActC × List Int, i < len → (∀ j u, q.1.cells[j]? = some u → W.cell? ((a'.add (i * 21)).add j) = some u) ∧ SrcU W q.1.c.ca q.1.c.cl q.2 ∧ (q.1.c.ca = none → q.1.c.cl = 0 ∧ q.1.c.cc = 0) ∧ (0 ≤ q.1.kind ∧ q.1.kind ≤ 255) := by
      intro i
      by_cases hi : i < len
      · obtain ⟨cs', h1, h2⟩ := hall i (by omega)
        rw [Try.cells44] at h1
        obtain ⟨_, hlen, hcell⟩ := World.cells?_some h1
        obtain ⟨q, ys, e, hS, hca, hk⟩ := open_act2 hlen h2
        refine ⟨(q, ys), fun _ => ⟨fun j u hu => ?_, hS, hca, hk⟩⟩
        have hj : j < 21 := by rw [← hlen, e]; exact (List.getElem?_eq_some_iff.1 hu).1
        have := hcell j hj
        rw [this, e]
        exact hu
      · exact ⟨(⟨0, cur0 0, 0, 0, 0, 0⟩, []), fun h => absurd h hi⟩
    obtain ⟨Q, hQ⟩ := Classical.axiomOfChoice hx
    refine ⟨some a', len, cap, fun i => (Q i).1, fun i => (Q i).2, rfl, fun hpos => ?_⟩
    obtain ⟨g, o, sp⟩ := a'
    have hs : sp = none := by
      have h0 := (hQ 0 (by omega)).1 0 _ rfl
      rw [add_add] at h0
      simpa [Addr.add] using World.cell?_spot h0
    subst hs
    refine ⟨g, o, rfl, fun i hi => ?_⟩
    obtain ⟨h1, h2⟩ := hQ i hi
    refine ⟨fun j u hu => ?_, h2⟩
    have := h1 j u hu
    rw [add_add, Addr.add_lit] at this
    rw [Nat.add_assoc]
    exact this
end Go.Proofs.Ytkmhdffkganhaaa
