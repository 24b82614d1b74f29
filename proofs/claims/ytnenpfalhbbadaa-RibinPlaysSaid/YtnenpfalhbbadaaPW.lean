/- Prefixes that stand twice behind each other go: slices.Compact at elements of two cells. -/
import Derived.Test.YtnenpfalhbbadaaPC
import Derived.Deep.LoopGhost
import Derived.Lib.SliceRun
import Derived.Lib.SlicesCompact
import Derived.Shelf.GgSortFunc.RowK
namespace Go.Proofs.Ytnenpfalhbbadaa
open Go.RowKit
open Go.Sort (HoldsK putRowK flatK setMany get_setMany size_setMany size_flatK get_flatK blk_iff ext_get! setCells_putRow holdsK_ahead holdsK_putRowK putRowK_self)
open Go.Lib (compactUpTo keeps CompInv compactUpTo_all range_map_get keeps_lt_one keeps_pos keeps_neg)

instance : Inhabited Pf := ⟨⟨0, 0⟩⟩
instance : DecidableEq Pf := fun p q => if h : samePf p q = true then isTrue (samePf_eq h) else isFalse (fun e => h (by rw [e]; exact samePf_refl q))
theorem flatK_set (d : Array Pf) (i : Nat) (x : Pf) (hi : i < d.size) : setMany (flatK Pf.cells 2 d) (i * 2) x.cells = flatK Pf.cells 2 (d.setIfInBounds i x) := by
  refine ext_get! (by simp) fun t ht => ?_
  have ht' : t < d.size * 2 := by simpa using ht
  rw [get_setMany _ _ _ t (by simpa using ht'), get_flatK _ _ _ t ht', get_flatK _ _ _ t (by simpa using ht')]
  have hl : x.cells.length = 2 := rfl
  rw [hl]
  by_cases a : t / 2 = i
  · rw [if_pos ((blk_iff 2 i t (by decide)).2 a), a, Go.Sort.getElem!_set_same d i x hi, show t - i * 2 = t % 2 by omega]
  · rw [if_neg (fun h => a ((blk_iff 2 i t (by decide)).1 h)), Go.Sort.getElem!_set_other d i (t / 2) x (fun h => a h)]
theorem setMany_append : ∀ (a b : List Value) (s : Nat) (F : Array Value), setMany F s (a ++ b) = setMany (setMany F s a) (s + a.length) b
  | [], _, _, _ => rfl
  | v :: r, b, s, F => by
    show setMany (F.setIfInBounds s v) (s + 1) (r ++ b) = setMany (setMany (F.setIfInBounds s v) (s + 1) r) (s + (r.length + 1)) b
    rw [setMany_append r b (s + 1) _, show s + 1 + r.length = s + (r.length + 1) by omega]
theorem setMany_lay : ∀ (xs : List Pf) (d : Array Pf) (k : Nat), k + xs.length ≤ d.size → setMany (flatK Pf.cells 2 d) (k * 2) (xs.flatMap Pf.cells) = flatK Pf.cells 2 (Go.Lib.lay d k xs)
  | [], _, _, _ => rfl
  | x :: r, d, k, h => by
    have hl : k + (r.length + 1) ≤ d.size := by simpa using h
    rw [List.flatMap_cons, setMany_append, flatK_set d k x (by omega), show k * 2 + x.cells.length = (k + 1) * 2 by rw [show x.cells.length = 2 from rfl]; omega, setMany_lay r _ (k + 1) (by simp; omega)]
    rfl
theorem store_two {w wr : World} {n blk off : Nat} {dk : Array Pf} {i : Nat} (hi : i < dk.size) (hwr : wr = putRowK Pf.cells 2 (Sort.ahead w n) blk off dk) (x : Pf) :
    ((wr.setCell ⟨blk, off + i * 2, none⟩ (.int .u32 (x.a : Int))).setCell ⟨blk, off + i * 2 + 1, none⟩ (.int .i64 x.l)) = putRowK Pf.cells 2 (Sort.ahead w n) blk off (dk.setIfInBounds i x) := by
  subst hwr
  have h := setCells_putRow (Sort.ahead w n) blk off x.cells (i * 2) (flatK Pf.cells 2 dk) (by simp [Pf.cells]; omega)
  rw [flatK_set dk i x hi] at h
  exact h
theorem zero_cells (z : Pf) (n : Nat) : (Builtin.zeroCells #[.int .u32 (z.a : Int), .int .i64 z.l] n).toList = (List.replicate n z).flatMap Pf.cells := by
  apply List.ext_getElem?
  intro i
  have hlen : ∀ k, ((List.replicate k z).flatMap Pf.cells).length = k * 2 := fun k => by
    induction k with
    | zero => rfl
    | succ m ih => rw [List.replicate_succ, List.flatMap_cons, List.length_append, ih, show z.cells.length = 2 from rfl]; omega
  by_cases hi : i < n * 2
  · have hr : ((List.replicate n z).flatMap Pf.cells)[i]? = z.cells[i % 2]? := by
      clear hlen
      induction n generalizing i with
      | zero => omega
      | succ m ih =>
        rw [List.replicate_succ, List.flatMap_cons]
        match i, hi with
        | 0, _ => rfl
        | 1, _ => rfl
        | i + 2, hi =>
          rw [List.getElem?_append_right (by simp [Pf.cells])]
          rw [show i + 2 - z.cells.length = i by rw [show z.cells.length = 2 from rfl]; omega, ih i (by omega), show (i + 2) % 2 = i % 2 by omega]
    rw [hr]
    have h2 : i % 2 = 0 ∨ i % 2 = 1 := by omega
    rcases h2 with h2 | h2 <;> simp [Builtin.zeroCells, hi, h2, Pf.cells]
  · rw [List.getElem?_eq_none (by simp [Builtin.zeroCells]; omega), List.getElem?_eq_none (by rw [hlen]; omega)]
theorem run_clear_pfs (w : World) (t e ty : TypeId) (z : Pf) (ht : Try.prog.underlying t = some (.slice e)) (hv : ∀ w, (zeroValue e).run Try.prog w = .ok z.val w) (b o n c : Nat) (hn : 0 < n)
    (hc : ∀ j, j < n * 2 → (w.cell? ⟨b, o + j, none⟩).isSome = true) (hf : ∀ j, j < n * 2 → w.frozen? ⟨b, o + j, none⟩ = false) :
    (Builtin.clear_ #[t] ty #[.slice (some ⟨b, o, none⟩) n c]).run Try.prog w = .ok (.tuple #[]) (w.setCells b o ((List.replicate n z).flatMap Pf.cells)) := by
  have hlen : ((List.replicate n z).flatMap Pf.cells).length = n * 2 := by
    clear hc hf hn
    induction n with
    | zero => rfl
    | succ m ih => rw [List.replicate_succ, List.flatMap_cons, List.length_append, ih, show z.cells.length = 2 from rfl]; omega
  have hst := run_storeCells_cells (P := Try.prog) b o ((List.replicate n z).flatMap Pf.cells) 0 w (by rw [hlen]; simpa using hc) (by rw [hlen]; simpa using hf) (by
    intro v hv'
    obtain ⟨p, -, hp⟩ := List.mem_flatMap.1 hv'
    simp [Pf.cells] at hp
    rcases hp with rfl | rfl <;> rfl)
  simp only [Nat.add_zero] at hst
  have hz := zero_cells z n
  have hzv : z.val.cells = #[.int .u32 (z.a : Int), .int .i64 z.l] := rfl
  rw [← hzv] at hz
  obtain ⟨m, rfl⟩ : ∃ m, n = m + 1 := ⟨n - 1, by omega⟩
  simp [Builtin.clear_, run_underlying ht, hv, hz, hst]
end Go.Proofs.Ytnenpfalhbbadaa
