/- A candidate as plain data: its sixteen cells, its path; the small functions that read it. -/
import Derived.Test.YthfchjcbkmabpaaRows
import Derived.Test.YthfchjcbkmabpaaBase
import Derived.Test.YthfchjcbkmabpaaApp
import Derived.Deep.QuietTactic
import Derived.BigQuiet
import Derived.Deep.Cut
import Derived.Deep.MidRow
import Derived.Laws.ResultCell
namespace Go.Proofs.Ythfchjcbkmabpaa
open Go.RowKit

structure Seg where
  kind : Int
  a : Option Addr
  n : Nat
  c : Nat
def Seg.cells (s : Seg) : List Value := [.int .i64 s.kind, .slice s.a s.n s.c]
/-- segments that lie one behind the other -/
def PathV (w : World) (a : Option Addr) (n : Nat) (S : List Seg) : Prop :=
  S.length = n ∧ (0 < n → ∃ g o, a = some ⟨g, o, none⟩ ∧ ∀ i (h : i < S.length), w.rangeAt g (o + i * 2) S[i].cells)
theorem PathV.below {w w' : World} {a : Option Addr} {n : Nat} {S : List Seg} (h : PathV w a n S) (hB : Below w.heap.size w w') : PathV w' a n S :=
  ⟨h.1, fun hp => by
    obtain ⟨g, o, e, h2⟩ := h.2 hp
    exact ⟨g, o, e, fun i hi j v hv => below_cell hB (Nat.le_refl _) _ _ (h2 i hi j v hv)⟩⟩

/-- a candidate, with the segments that its path reads as -/
structure Cnd where
  peer : Int
  ext : Bool
  near : Int
  id : Int
  addr : Int
  origin : Int
  pa : Option Addr
  pl : Nat
  pc : Nat
  next : Int
  med : Int
  pref : Int
  atomic : Bool
  hasAggr : Bool
  aas : Int
  aad : Int
  ca : Option Addr
  cl : Nat
  cc : Nat
  ra : Option Addr
  rl : Nat
  rc : Nat
  segs : List Seg
def Cnd.cells (c : Cnd) : List Value := [.int .i64 c.peer, .bool c.ext, .int .u32 c.near, .int .u32 c.id, .int .u32 c.addr, .int .i64 c.origin, .slice c.pa c.pl c.pc, .int .u32 c.next, .int .i64 c.med, .int .i64 c.pref, .bool c.atomic, .bool c.hasAggr, .int .u32 c.aas, .int .u32 c.aad, .slice c.ca c.cl c.cc, .slice c.ra c.rl c.rc]
def Cnd.val (c : Cnd) : Value := .agg c.cells.toArray
theorem Cnd.len (c : Cnd) : c.cells.length = 16 := rfl
theorem Cnd.one (c : Cnd) : ∀ u ∈ c.cells, u.oneCell' = true := by
  intro u hu
  simp only [Cnd.cells, List.mem_cons, List.not_mem_nil, or_false] at hu
  rcases hu with rfl | rfl | rfl | rfl | rfl | rfl | rfl | rfl | rfl | rfl | rfl | rfl | rfl | rfl | rfl | rfl <;> rfl
def Cnd.at (w : World) (c : Cnd) : Prop := PathV w c.pa c.pl c.segs
theorem Cnd.at.below {w w' : World} {c : Cnd} (h : c.at w) (hB : Below w.heap.size w w') : c.at w' := PathV.below h hB

/-- how long a path counts, from n on -/
def cntFrom (n : Int) : List Seg → Int
  | [] => n
  | s :: r => cntFrom (wrap64 (n + if s.kind = 1 then 1 else (s.n : Int))) r
theorem cntFrom_snoc (n : Int) : ∀ (S : List Seg) (s : Seg), cntFrom n (S ++ [s]) = wrap64 (cntFrom n S + if s.kind = 1 then 1 else (s.n : Int))
  | [], _ => rfl
  | x :: r, s => by simp only [List.cons_append, cntFrom]; exact cntFrom_snoc _ r s
theorem cntFrom_take (S : List Seg) (j : Nat) (hj : j < S.length) : cntFrom 0 (S.take (j + 1)) = wrap64 (cntFrom 0 (S.take j) + if S[j].kind = 1 then 1 else (S[j].n : Int)) := by
  rw [List.take_succ_eq_append_getElem hj, cntFrom_snoc]
def cnt (S : List Seg) : Int := cntFrom 0 S

theorem Try.info45 : (Try.prog.info? 45).map (·.size) = some 2 := by kernel_rfl
theorem Try.info34 : (Try.prog.info? 34).map (·.size) = some 16 := by kernel_rfl
theorem Try.info32 : (Try.prog.info? 32).map (·.size) = some 11 := by kernel_rfl

set_option maxHeartbeats 1000000 in
theorem rcount_any (a : Option Addr) (n c : Nat) (S : List Seg) (w : World) (h : PathV w a n S) (hn : n ≤ 1000000) :
    Calls Try.prog 15 #[.slice a n c] w fun e w' => e = .returned (.int .i64 (cnt S)) ∧ Below w.heap.size w w' := by
  have hl := h.1
  have H := hidp h.2
  have HL := hidp hl
  clear h hl
  go_enter Try.func15, Try.ntmps15
  go_wp2
  go_loopw [3, 4] (fun x i wr => ∃ j : Nat, j ≤ n ∧ i = .int .i64 j ∧ x = .int .i64 (cntFrom 0 (S.take j)) ∧ Below w.heap.size w wr) (fun _ i _ => n - (intOf i).toNat)
  case atStart => exact ⟨0, by omega, rfl, rfl, Below.refl _ _⟩
  case round =>
    obtain ⟨j, hj, rfl, rfl, hB⟩ := hrel
    by_cases hlt : j < n
    · obtain ⟨g, o, rfl, h1⟩ := H.out (by omega)
      have hjl : j < S.length := by rw [HL.out]; exact hlt
      have HN := hidp (cntFrom_take S j hjl)
      have d0 := below_cell hB (Nat.le_refl _) _ _ (h1 j hjl 0 _ rfl)
      rw [Nat.add_zero] at d0
      have d1 := below_cell hB (Nat.le_refl _) _ _ (h1 j hjl 1 _ rfl)
      have l1 : (j : Int) < (n : Int) := by omega
      generalize S[j] = s at d0 d1 HN
      generalize cntFrom 0 (S.take j) = x at HN
      clear h1
      by_cases hk : s.kind = 1
      · rw [if_pos hk] at HN
        go_wp2
        go_roundw
        case rel => exact ⟨j + 1, by omega, by go_num, by rw [HN.out], hB⟩
        case measure => simp [intOf]; omega
      · rw [if_neg hk] at HN
        go_wp2
        go_roundw
        case rel => exact ⟨j + 1, by omega, by go_num, by rw [HN.out], hB⟩
        case measure => simp [intOf]; omega
    · have l1 : ¬ (j : Int) < (n : Int) := by omega
      have e1 : S.take j = S := List.take_of_length_le (by rw [HL.out]; omega)
      rw [e1]
      go_wp2
      go_ret
      exact ⟨rfl, hB⟩

set_option maxHeartbeats 1000000 in
theorem count_any (a : Option Addr) (n c : Nat) (S : List Seg) (w : World) (h : PathV w a n S) (hn : n ≤ 1000000) :
    Calls Try.prog 27 #[.slice a n c] w fun e w' => e = .returned (.int .i64 (cnt S)) ∧ Below w.heap.size w w' := by
  have hl := h.1
  have H := hidp h.2
  have HL := hidp hl
  clear h hl
  go_enter Try.func27, Try.ntmps27
  go_wp2
  go_loopw [3, 8] (fun x i wr => ∃ j : Nat, j ≤ n ∧ i = .int .i64 j ∧ x = .int .i64 (cntFrom 0 (S.take j)) ∧ Below w.heap.size w wr) (fun _ i _ => n - (intOf i).toNat)
  case atStart => exact ⟨0, by omega, rfl, rfl, Below.refl _ _⟩
  case round =>
    obtain ⟨j, hj, rfl, rfl, hB⟩ := hrel
    by_cases hlt : j < n
    · obtain ⟨g, o, rfl, h1⟩ := H.out (by omega)
      have hjl : j < S.length := by rw [HL.out]; exact hlt
      have HN := hidp (cntFrom_take S j hjl)
      have d0 := below_cell hB (Nat.le_refl _) _ _ (h1 j hjl 0 _ rfl)
      rw [Nat.add_zero] at d0
      have d1 := below_cell hB (Nat.le_refl _) _ _ (h1 j hjl 1 _ rfl)
      have l1 : (j : Int) < (n : Int) := by omega
      generalize S[j] = s at d0 d1 HN
      generalize cntFrom 0 (S.take j) = x at HN
      clear h1
      by_cases hk : s.kind = 1
      · rw [if_pos hk] at HN
        go_wp2
        go_roundw
        case rel => exact ⟨j + 1, by omega, by go_num, by rw [HN.out], by have := hB.size; go_grown⟩
        case measure => simp [intOf]; omega
      · rw [if_neg hk] at HN
        go_wp2
        go_roundw
        case rel => exact ⟨j + 1, by omega, by go_num, by rw [HN.out], by have := hB.size; go_grown⟩
        case measure => simp [intOf]; omega
    · have l1 : ¬ (j : Int) < (n : Int) := by omega
      have e1 : S.take j = S := List.take_of_length_le (by rw [HL.out]; omega)
      rw [e1]
      go_wp2
      go_ret
      exact ⟨rfl, hB⟩

/-- told is a truth value; if it is true, p holds -/
def TellsB (e : Ending) (p : Prop) : Prop := ∃ b, e = .returned (.bool b) ∧ (b = true → p)
theorem TellsB.no (p : Prop) : TellsB (.returned (.bool false)) p := ⟨false, rfl, fun h => by cases h⟩
theorem TellsB.yes {p : Prop} (h : p) : TellsB (.returned (.bool true)) p := ⟨true, rfl, fun _ => h⟩
set_option maxHeartbeats 1000000 in
theorem few3_any (a : Option Addr) (n c : Nat) (S : List Seg) (w : World) (h : PathV w a n S) :
    Calls Try.prog 19 #[.slice a n c] w fun e w' => TellsB e (n ≤ 12) ∧ Below w.heap.size w w' := by
  have hl := h.1
  have H := hidp h.2
  have HL := hidp hl
  clear h hl
  by_cases h12 : (12 : Int) < n
  · go_enter Try.func19, Try.ntmps19
    go_wp2
    go_ret
    exact ⟨TellsB.no _, by go_grown⟩
  go_enter Try.func19, Try.ntmps19
  go_wp2
  go_loopw [3, 4] (fun x i wr => ∃ (j : Nat) (y : Int), j ≤ n ∧ i = .int .i64 j ∧ x = .int .i64 y ∧ Below w.heap.size w wr) (fun _ i _ => n - (intOf i).toNat)
  case atStart => exact ⟨0, _, by omega, rfl, rfl, Below.refl _ _⟩
  case round =>
    obtain ⟨j, y, hj, rfl, rfl, hB⟩ := hrel
    by_cases hlt : j < n
    · obtain ⟨g, o, rfl, h1⟩ := H.out (by omega)
      have hjl : j < S.length := by rw [HL.out]; exact hlt
      have d1 := below_cell hB (Nat.le_refl _) _ _ (h1 j hjl 1 _ rfl)
      have l1 : (j : Int) < (n : Int) := by omega
      generalize S[j] = s at d1
      clear h1
      go_wp2_with fail
      all_goals first
        | (go_ret
           exact ⟨TellsB.no _, hB⟩)
        | (go_roundw
           case rel => exact ⟨j + 1, _, by omega, by go_num, rfl, hB⟩
           case measure => simp [intOf]; omega)
    · have l1 : ¬ (j : Int) < (n : Int) := by omega
      go_wp2
      go_ret
      exact ⟨TellsB.yes (by omega), hB⟩

def Cnd.pre (c : Cnd) : Int := if c.pref < 0 then 100 else c.pref
theorem pref_any (c : Cnd) (w : World) :
    Calls Try.prog 14 #[c.val] w fun e w' => e = .returned (.int .i64 c.pre) ∧ Below w.heap.size w w' := by
  unfold Cnd.val Cnd.cells Cnd.pre
  by_cases h : c.pref < 0
  · rw [if_pos h]
    go_enter Try.func14, Try.ntmps14
    go_wp2
    go_ret
    exact ⟨rfl, by go_grown⟩
  · rw [if_neg h]
    go_enter Try.func14, Try.ntmps14
    go_wp2
    go_ret
    exact ⟨rfl, by go_grown⟩
def Cnd.md (c : Cnd) : Int := if c.med < 0 then 0 else c.med
theorem med_any (c : Cnd) (w : World) :
    Calls Try.prog 16 #[c.val] w fun e w' => e = .returned (.int .i64 c.md) ∧ Below w.heap.size w w' := by
  unfold Cnd.val Cnd.cells Cnd.md
  by_cases h : c.med < 0
  · rw [if_pos h]
    go_enter Try.func16, Try.ntmps16
    go_wp2
    go_ret
    exact ⟨rfl, by go_grown⟩
  · rw [if_neg h]
    go_enter Try.func16, Try.ntmps16
    go_wp2
    go_ret
    exact ⟨rfl, by go_grown⟩

theorem nan_any (x : Int) (w : World) : Calls Try.prog 30 #[.int .i64 x] w fun e w' => e = .returned (.bool false) ∧ w' = w := by
  go_enter Try.func30, Try.ntmps30
  go_wp2
  go_ret
  exact ⟨rfl, rfl⟩
def cmpI (x y : Int) : Int := if x < y then -1 else if y < x then 1 else 0
theorem cmp_any (x y : Int) (w : World) : Calls Try.prog 28 #[.int .i64 x, .int .i64 y] w fun e w' => e = .returned (.int .i64 (cmpI x y)) ∧ w' = w := by
  unfold cmpI
  by_cases h1 : x < y
  · rw [if_pos h1]
    go_enter Try.func28, Try.ntmps28
    go_wp2_with (first
      | (go_at_call 30; refine (nan_any _ _).mono ?_; rintro e w1 ⟨rfl, rfl⟩))
    go_ret
    exact ⟨rfl, rfl⟩
  · rw [if_neg h1]
    by_cases h2 : y < x
    · rw [if_pos h2]
      go_enter Try.func28, Try.ntmps28
      go_wp2_with (first
        | (go_at_call 30; refine (nan_any _ _).mono ?_; rintro e w1 ⟨rfl, rfl⟩))
      go_ret
      exact ⟨rfl, rfl⟩
    · rw [if_neg h2]
      go_enter Try.func28, Try.ntmps28
      go_wp2_with (first
        | (go_at_call 30; refine (nan_any _ _).mono ?_; rintro e w1 ⟨rfl, rfl⟩))
      go_ret
      exact ⟨rfl, rfl⟩
end Go.Proofs.Ythfchjcbkmabpaa
