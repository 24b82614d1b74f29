/- For the law CursorPlays: Move, Get, Close of both tables; a list that is told stays. -/
import Derived.Test.YtkmhdffkganhaaaLPB
namespace Go.Proofs.Ytkmhdffkganhaaa
open Go.RowKit

theorem move_any (base b : Nat) (v : Value) (L : List Cur) (most life next k o n x y : Int) (w : World) (h : TabIs w base b v L most life next) (hT : CTab L most next k) (hn : L.length ≤ 1000) :
    Calls Try.prog 10 #[.pointer (some ⟨b, 0, none⟩), .int .i64 o, .int .i64 n, .agg #[.int .u32 x, .int .i64 y]] w fun e w' => e = .returned (.bool (L.any (isAt o n))) ∧ (∃ v', TabIs w' base b v' (L.map (mvC o n x y)) most life next) ∧ FrameV b v w w' := by
  rw [idxC_any]
  rcases idxC_cases (isAt o n) L with ⟨hi, _⟩ | ⟨j, hj, hi, _⟩
  · rw [map_mv_none o n x y hi, hi]
    refine (move_no base b v L most life next o n x y w h hn hi).mono ?_
    rintro e w' ⟨rfl, hB⟩
    exact ⟨by simp, ⟨v, h.below hB (Nat.le_refl _)⟩, FrameV.of_below hB⟩
  · rw [← hT.set_mv hj o n x y hi, hi]
    refine (move_yes base b v L most life next o n x y j w h hn hj hi).mono ?_
    rintro e w' ⟨rfl, hT', hB⟩
    refine ⟨?_, ⟨v, hT'⟩, hB⟩
    rw [decide_eq_true (by omega)]

theorem any_dc {A : Int → Option Addr} {C : Int → Nat} (o m : Int) (L : List Cur) : (L.map (dc A C)).any (isAt o m) = L.any (isAt o m) := by
  rw [List.any_map]
  rfl
section
variable {w0 : World} {b d : Nat} {A : Int → Option Addr} {C : Int → Nat} {L M : List Cur} {n life next k : Int} {wr : World}
theorem got_pre (h : G w0 b d A C L M L n life next next wr) (o m : Int) : ∃ (x y : Cur) (r : Bool), (∀ e, GotP o m L e → e = .returned (.tuple #[.agg x.cells.toArray, .bool r])) ∧ (∀ e, GotP o m (L.map (dc A C)) e → e = .returned (.tuple #[.agg y.cells.toArray, .bool r])) ∧ Twin wr x y := by
  have hm := idxC_map (p := isAt o m) (f := dc A C) (fun c => dc_isAt o m c) L
  rcases idxC_cases (isAt o m) L with ⟨hi, _⟩ | ⟨j, hj, hi, _⟩
  · refine ⟨cur0 0, cur0 0, false, fun e h1 => ?_, fun e h1 => ?_, twin_zero wr⟩
    · rcases h1 with ⟨_, e1⟩ | ⟨j2, _, i2, _⟩
      · exact e1
      · omega
    · unfold GotP at h1
      rw [hm] at h1
      rcases h1 with ⟨_, e1⟩ | ⟨j2, _, i2, _⟩
      · exact e1
      · omega
  · refine ⟨L[j], dc A C L[j], true, fun e h1 => ?_, fun e h1 => ?_, h.twin (List.getElem_mem hj)⟩
    · rcases h1 with ⟨i1, _⟩ | ⟨j2, _, i2, e2⟩
      · omega
      · obtain rfl : j = j2 := by omega
        exact e2
    · unfold GotP at h1
      rw [hm] at h1
      rcases h1 with ⟨i1, _⟩ | ⟨j2, hj2, i2, e2⟩
      · omega
      · obtain rfl : j = j2 := by omega
        rw [List.getElem_map] at e2
        exact e2
/-- behind the program's Close, or the document's -/
def ClosP (o m : Int) (L : List Cur) (T : List Cur → Prop) (e : Ending) : Prop := (idxC (isAt o m) L = -1 ∧ e = .returned (.tuple #[.agg zarr34, .bool false]) ∧ T L) ∨ (∃ (j : Nat) (h : j < L.length), idxC (isAt o m) L = j ∧ e = .returned (.tuple #[L[j].val, .bool true]) ∧ T (L.filter fun c => !(c.id == m)))
theorem clos_pre (w0 : World) (b d : Nat) (A : Int → Option Addr) (C : Int → Nat) (life : Int) (hT : CTab L n next k) (o m : Int) : ∃ (x y : Cur) (r : Bool) (L' : List Cur), (∀ T e, ClosP o m L T e → e = .returned (.tuple #[.agg x.cells.toArray, .bool r]) ∧ T L') ∧ (∀ T e, ClosP o m (L.map (dc A C)) T e → e = .returned (.tuple #[.agg y.cells.toArray, .bool r]) ∧ T (L'.map (dc A C))) ∧
    (∀ (wx : World) (L1 M1 : List Cur) (last : Int), G w0 b d A C L1 M1 L n life next last wx → Twin wx x y) ∧ CTab L' n next k ∧ ∀ c ∈ L', ∃ c0 ∈ L, c.ca = c0.ca ∧ c.cl = c0.cl ∧ c.id = c0.id := by
  have hm := idxC_map (p := isAt o m) (f := dc A C) (fun c => dc_isAt o m c) L
  have hf := map_dc_filter (A := A) (C := C) (p := fun c => !(c.id == m)) (fun _ => rfl) L
  rcases idxC_cases (isAt o m) L with ⟨hi, _⟩ | ⟨j, hj, hi, _⟩
  · refine ⟨cur0 0, cur0 0, false, L, fun T e h1 => ?_, fun T e h1 => ?_, fun wx _ _ _ _ => twin_zero wx, hT, fun c hc => ⟨c, hc, rfl, rfl, rfl⟩⟩
    · rcases h1 with ⟨_, e1⟩ | ⟨j2, _, i2, _⟩
      · exact e1
      · omega
    · unfold ClosP at h1
      rw [hm] at h1
      rcases h1 with ⟨_, e1⟩ | ⟨j2, _, i2, _⟩
      · exact e1
      · omega
  · refine ⟨L[j], dc A C L[j], true, L.filter fun c => !(c.id == m), fun T e h1 => ?_, fun T e h1 => ?_, fun wx _ _ _ h => h.twin (List.getElem_mem hj), hT.filter _, mem_filter_sub⟩
    · rcases h1 with ⟨i1, _⟩ | ⟨j2, _, i2, e2⟩
      · omega
      · obtain rfl : j = j2 := by omega
        exact e2
    · unfold ClosP at h1
      rw [hm, hf] at h1
      rcases h1 with ⟨i1, _⟩ | ⟨j2, hj2, i2, e2⟩
      · omega
      · obtain rfl : j = j2 := by omega
        rw [List.getElem_map] at e2
        exact e2
theorem OpenP.later {c : Cur} {o : Value} {w1 w2 : World} (h : OpenP w0 b d A C L M c n life next o w1) (hB : Below w1.heap.size w1 w2) : OpenP w0 b d A C L M c n life next o w2 := by
  obtain ⟨z, h1, h2, h3, h4⟩ := h
  refine ⟨z, h1, h2, h3, ?_⟩
  rcases h4 with ⟨e1, e2, g⟩ | ⟨e1, x, r, e2, ho, g⟩
  · exact .inl ⟨e1, e2, g.later hB⟩
  · exact .inr ⟨e1, x, r, e2, ownsRow_below ho hB (Nat.le_refl _), g.later hB⟩
theorem GoneP.later {M S L' X : List Cur} {o : Value} {w1 w2 : World} (h : GoneP w0 b d A C M S L' X n life next o w1) (hB : Below w1.heap.size w1 w2) : GoneP w0 b d A C M S L' X n life next o w2 := ⟨h.g.later hB, ownsRow_below h.o hB (Nat.le_refl _)⟩
end
end Go.Proofs.Ytkmhdffkganhaaa
