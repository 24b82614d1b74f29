/- All places of a list, and the program's Best of a list. -/
import Derived.Test.YthfchjcbkmabpaaRD
import Derived.Test.YthfchjcbkmabpaaRows
namespace Go.Proofs.Ythfchjcbkmabpaa
open Go.RowKit

theorem ownsRow_base {w : World} {base : Nat} {e : TypeId} {size : Nat} {v : Value} {n : Nat} {xs : List Value} (h : w.ownsRow base e size v n xs) (g : Nat) (hg : v.ownBlock = some g) : base ≤ g := by
  rcases h.2 with ⟨rfl, _⟩ | ⟨g', cap, cur, rfl, hb, _⟩
  · cases hg
  · simp [Value.ownBlock] at hg
    omega
theorem infos3 : ∃ i : TypeInfo, Try.prog.info? 3 = some i ∧ i.zero = some (.int .i64 0) ∧ i.size = 1 ∧ i.bytes = 8 := ⟨_, rfl, rfl, rfl, rfl⟩
def intv (i : Nat) : Value := .int .i64 (i : Int)
/-- a slice of the call's own that holds some places -/
def OwnI (w : World) (base : Nat) (v : Value) (xs : List Nat) : Prop := w.ownsRow base 3 1 v xs.length (xs.map intv)
theorem OwnI.row {w : World} {base : Nat} {v : Value} {xs : List Nat} (h : OwnI w base v xs) : RowAt w 1 v xs.length (xs.map intv) := RowAt.of_owns h
theorem OwnI.nil (w : World) (base : Nat) : OwnI w base (.slice none 0 0) [] := World.ownsRow_nil w base 3 1
theorem OwnI.below {w w' : World} {base : Nat} {v : Value} {xs : List Nat} (h : OwnI w base v xs) (hB : Below w.heap.size w w') : OwnI w' base v xs := ownsRow_below h hB (Nat.le_refl _)
theorem OwnI.slice {w : World} {base : Nat} {v : Value} {xs : List Nat} (h : OwnI w base v xs) : ∃ a c, v = .slice a xs.length c := ownsRow_slice h
theorem OwnI.push {w' : World} {base : Nat} {v' : Value} {xs : List Nat} {i : Nat} (h : w'.ownsRow base 3 1 v' (xs.length + 1) (xs.map intv ++ [intv i])) : OwnI w' base v' (xs ++ [i]) := by
  unfold OwnI
  rw [List.length_append, List.map_append]
  exact h

/-- 'append(x, i)' onto places of the call's own -/
theorem wpList_appI (w0 w : World) {ops : Array Oper} {rest : List Oper} {o : Oper} {act : Act} {Q : Exit → Act → World → Prop} (hgd : o.guard = none) (s x : Operand)
    (ho : o.op = .call { callee := .builtin .append, args := #[s, x], argTypes := #[41, 41] }) (base : Nat) (a : Option Addr) (m c : Nat) (xs : List Nat) (hs : act.eval s = .slice a m c) (hown : OwnI w base (.slice a m c) xs)
    (i : Nat) (hx : act.eval x = .slice (some ⟨w.heap.size, 0, none⟩) 1 1) (hlen : xs.length ≤ 1000) (hB : Below base w0 w) (hbase : base ≤ w.heap.size)
    (h : ∀ v' w', OwnI w' base v' (xs ++ [i]) → Below base w0 w' → wpList Try.prog ops Q rest (act.put o.dst v') w') : wpList Try.prog ops Q (o :: rest) act (w.alloc (.cells #[.int .i64 (i : Int)] 3)) := by
  obtain ⟨i0, hi0, hz0, hz1, hz2⟩ := infos3
  refine wpList_append1 w hgd s x 41 ho base 3 i0 (.int .i64 0) 8 Try.underlying41 hi0 hz0 hz1 hz2 rfl (.slice a m c) xs.length (xs.map intv) hs hown (intv i) w.heap.size hx rfl rfl (by omega) (by decide) hbase (fun v' w' h1 h2 => ?_)
  exact h v' w' (OwnI.push h1) (hB.grown h2 hbase (fun g hg => ownsRow_base hown g hg))

set_option maxHeartbeats 1000000 in
theorem places_any (n : Nat) (w : World) (hn : n ≤ 1000) :
    Calls Try.prog 22 #[.int .i64 n] w fun e w' => (∃ v, e = .returned v ∧ OwnI w' w.heap.size v (List.range n)) ∧ Below w.heap.size w w' := by
  go_enter Try.func22, Try.ntmps22
  go_wp2
  go_loopw [3, 4] (fun x i wr => ∃ (j : Nat) (a : Option Addr) (c : Nat), j ≤ n ∧ i = .int .i64 j ∧ x = .slice a j c ∧ OwnI wr w.heap.size (.slice a j c) (List.range j) ∧ Below w.heap.size w wr) (fun _ i _ => n - (intOf i).toNat)
  case atStart => exact ⟨0, _, _, by omega, rfl, rfl, OwnI.nil _ _, Below.refl _ _⟩
  case round =>
    obtain ⟨j, a, c, hj, rfl, rfl, hO, hB⟩ := hrel
    obtain ⟨w1, rfl⟩ : ∃ w1, w1 = wr := ⟨_, rfl⟩
    have HO := hidp hO
    have HB := hidp hB
    clear hO hB
    by_cases hlt : j < n
    · have l1 : (j : Int) < (n : Int) := by omega
      go_wp2_with (first
        | (at_builtin
           refine wpList_appI w w1 rfl (.tmp 10) (.tmp 12) rfl w.heap.size a j c (List.range j) rfl HO.out j rfl (by simp; omega) HB.out HB.out.size ?_
           intro v' w' h1 h2
           have H1 := hidp (And.intro h1 h2)
           clear h1 h2))
      go_roundw
      case rel =>
        obtain ⟨a', c', e⟩ := H1.out.1.slice
        have h1 := H1.out.1
        rw [e] at h1
        rw [← List.range_succ] at h1 e
        rw [List.length_range] at h1 e
        exact ⟨j + 1, a', c', by omega, by go_num, e, h1, H1.out.2⟩
      case measure => simp [intOf]; omega
    · have l1 : ¬ (j : Int) < (n : Int) := by omega
      obtain rfl : j = n := by omega
      go_wp2
      go_ret
      exact ⟨⟨_, rfl, HO.out⟩, HB.out⟩

/-- the program's best of a list -/
def PBest (L : List Cnd) (r : Int) : Prop := BestOf (KL L) (NL L) (List.range L.length) r
set_option maxHeartbeats 1000000 in
theorem pbest_any (L : List Cnd) (a : Option Addr) (n c : Nat) (w : World) (hL : CandsV w a n L) (hn : n ≤ 1000) (hpl : ∀ c ∈ L, c.pl ≤ 1000000) :
    Calls Try.prog 10 #[.slice a n c] w fun e w' => (∃ r : Int, e = .returned (.int .i64 r) ∧ PBest L r) ∧ Below w.heap.size w w' := by
  have HL := hidp hL
  have HLN := hidp hL.len
  have HPL := hidp hpl
  clear hL hpl
  go_enter Try.func10, Try.ntmps10
  go_wp2
  go_loopw [3, 7] (fun x i wr => ∃ (j : Nat) (a : Option Addr) (c : Nat), j ≤ n ∧ i = .int .i64 j ∧ x = .slice a j c ∧ OwnI wr w.heap.size (.slice a j c) (List.range j) ∧ Below w.heap.size w wr) (fun _ i _ => n - (intOf i).toNat)
  case atStart => exact ⟨0, _, _, by omega, rfl, rfl, OwnI.nil _ _, Below.refl _ _⟩
  case round =>
    obtain ⟨j, a1, c1, hj, rfl, rfl, hO, hB⟩ := hrel
    obtain ⟨w1, rfl⟩ : ∃ w1, w1 = wr := ⟨_, rfl⟩
    have HO := hidp hO
    have HB := hidp hB
    clear hO hB
    by_cases hlt : j < n
    · have l1 : (j : Int) < (n : Int) := by omega
      go_wp2_with (first
        | (at_builtin
           refine wpList_appI w w1 rfl (.tmp 10) (.tmp 12) rfl w.heap.size a1 j c1 (List.range j) rfl HO.out j rfl (by simp; omega) HB.out HB.out.size ?_
           intro v' w' h1 h2
           have H1 := hidp (And.intro h1 h2)
           clear h1 h2))
      go_roundw
      case rel =>
        obtain ⟨a', c', e⟩ := H1.out.1.slice
        have h1 := H1.out.1
        rw [e] at h1
        rw [← List.range_succ] at h1 e
        rw [List.length_range] at h1 e
        exact ⟨j + 1, a', c', by omega, by go_num, e, h1, H1.out.2⟩
      case measure => simp [intOf]; omega
    · have l1 : ¬ (j : Int) < (n : Int) := by omega
      obtain rfl : j = n := by omega
      go_wp2_with (first
        | (go_at_call 20; refine (best_any L (List.range j) a j c _ _ (HL.out.below HB.out) HO.out.row (fun i hi => List.mem_range.1 hi) hn (by simpa using hn) HPL.out).mono ?_; rintro e w2 ⟨⟨r, rfl, hr⟩, B2⟩
           have H2 := hidp (And.intro hr B2)
           clear hr B2))
      go_ret
      exact ⟨⟨r, rfl, by unfold PBest; rw [HLN.out]; exact H2.out.1⟩, HB.out.trans (H2.out.2.mono HB.out.size)⟩
end Go.Proofs.Ythfchjcbkmabpaa
