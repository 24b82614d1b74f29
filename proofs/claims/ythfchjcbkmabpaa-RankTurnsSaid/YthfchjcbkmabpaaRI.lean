/- The guard of the laws: candidates are few, and their paths have few segments. -/
import Derived.Test.YthfchjcbkmabpaaRE
import Derived.Deep.WholeRow
namespace Go.Proofs.Ythfchjcbkmabpaa
open Go.RowKit

def Cnd.acells (c : Cnd) : List Value := [.int .i64 c.origin, .slice c.pa c.pl c.pc, .int .u32 c.next, .int .i64 c.med, .int .i64 c.pref, .bool c.atomic, .bool c.hasAggr, .int .u32 c.aas, .int .u32 c.aad, .slice c.ca c.cl c.cc, .slice c.ra c.rl c.rc]
theorem Cnd.alen (c : Cnd) : c.acells.length = 11 := rfl
theorem acells_at (c : Cnd) (j : Nat) : c.acells[j]? = c.cells[5 + j]? := by
  rw [Nat.add_comm]
  rfl
theorem all_one11 (c : Cnd) : c.acells.toArray.all (·.oneCell') = true := by simp [Cnd.acells, Value.oneCell']
def z11 : Array Value := #[.int .i64 0, .slice none 0 0, .int .u32 0, .int .i64 0, .int .i64 0, .bool false, .bool false, .int .u32 0, .int .u32 0, .slice none 0 0, .slice none 0 0]
/-- a candidate is small: its path is short, and its Pref is such as routes have -/
def fewP (c : Cnd) : Prop := c.pl ≤ 12 ∧ -1 ≤ c.pref ∧ c.pref ≤ 4294967296
set_option maxHeartbeats 2000000 in
theorem few2_any (L : List Cnd) (a : Option Addr) (n c : Nat) (N : Nat) (w : World) (hL : CandsV w a n L) (hNN : N ≤ 1000) :
    Calls Try.prog 8 #[.slice a n c, .int .i64 N] w fun e w' => TellsB e (n ≤ N ∧ ∀ c ∈ L, fewP c) ∧ Below w.heap.size w w' := by
  have HL := hidp hL
  clear hL
  by_cases hN : (N : Int) < n
  · go_enter Try.func8, Try.ntmps8
    go_wp2
    go_ret
    exact ⟨TellsB.no _, Below.refl _ _⟩
  go_enter Try.func8, Try.ntmps8
  go_wp2
  go_loopw [5] (fun i wr => ∃ j : Nat, j ≤ n ∧ i = .int .i64 j ∧ (∀ c ∈ L.take j, fewP c) ∧ Below w.heap.size w wr) (fun i _ => n - (intOf i).toNat)
  case atStart => exact ⟨0, by omega, rfl, fun _ h => absurd h (by simp), Below.refl _ _⟩
  case round =>
    obtain ⟨j, hj, rfl, hp, hB⟩ := hrel
    obtain ⟨w1, rfl⟩ : ∃ w1, w1 = wr := ⟨_, rfl⟩
    have HP := hidp hp
    have HB := hidp hB
    clear hp hB
    by_cases hlt : j < n
    · have l1 : (j : Int) < (n : Int) := by omega
      have hL1 := HL.out.below HB.out
      obtain ⟨g, o, rfl, hrw⟩ := hL1.rows (by omega)
      have hjl : j < L.length := by rw [hL1.len]; exact hlt
      have hr := hrw j hjl
      have hat := hL1.ats _ (List.getElem_mem hjl)
      have htk : L.take (j + 1) = L.take j ++ [L[j]] := List.take_succ_eq_append_getElem hjl
      generalize L[j] = x at *
      have hra : w1.rangeAt g (o + j * 16 + 5) x.acells := fun k v hv => by
        rw [Nat.add_assoc]
        exact hr (5 + k) v (by rw [← acells_at]; exact hv)
      have HRA := hidp hra
      have HTK := hidp htk
      have HAT := hidp hat
      clear hra htk hat hr hrw hL1
      go_wp2_with (first
        | (with_reducible refine wpList_load_mid rfl 32 (.tmp 20) rfl g (o + j * 16 + 5) rfl x.acells _ HRA.out Try.underlying32 rfl (by rw [Cnd.alen]; exact Try.info32) ?_)
        | (with_reducible refine wpList_store_row rfl 32 (.tmp 6) (.tmp 21) rfl w1.heap.size x.acells.toArray rfl rfl 32 _ (heap_alloc_new w1 _) (by rw [List.size_toArray, Cnd.alen]; exact Try.info32) rfl (all_one11 x) ?_
           rw [World.setRow_alloc_new]
           have hB2 : Below w1.heap.size w1 (w1.alloc (.cells x.acells.toArray 32)) := (Below.refl _ _).alloc (Nat.le_refl _) _
           have k2 := heap_alloc_new w1 (.cells x.acells.toArray 32)
           generalize w1.alloc (.cells x.acells.toArray 32) = w2 at *
           have d1 := cellOf k2 1 (v := .slice x.pa x.pl x.pc) rfl
           have HB2 := hidp hB2
           have K2 := hidp k2
           clear hB2 k2)
        | (go_at_call 19; refine (few3_any _ _ _ x.segs _ (HAT.out.below HB2.out)).mono ?_; rintro e w3 ⟨⟨b, rfl, hb⟩, B3⟩
           have k3 := heap_below B3 K2.out (ltOf K2.out)
           have d3 := cellOf k3 3 (v := .int .i64 x.med) rfl
           have d4 := cellOf k3 4 (v := .int .i64 x.pref) rfl
           have HB3 := hidp (HB.out.trans ((HB2.out.trans (B3.mono HB2.out.size)).mono HB.out.size))
           have HBB := hidp hb
           clear hb B3 k3))
      all_goals first
        | (go_ret
           exact ⟨TellsB.no _, HB3.out⟩)
        | (go_roundw
           case rel =>
             refine ⟨j + 1, by omega, by go_num, fun y hy => ?_, HB3.out⟩
             rw [HTK.out] at hy
             rcases List.mem_append.1 hy with hy | hy
             · exact HP.out y hy
             · simp at hy
               subst hy
               exact ⟨HBB.out (by simp_all), by omega, by omega⟩
           case measure => simp [intOf]; omega)
    · have l1 : ¬ (j : Int) < (n : Int) := by omega
      obtain rfl : j = n := by omega
      have hpp := HP.out
      rw [List.take_of_length_le (by rw [HL.out.len]; omega)] at hpp
      have HPP := hidp hpp
      clear hpp
      go_wp2
      go_ret
      exact ⟨TellsB.yes ⟨by omega, HPP.out⟩, HB.out⟩
theorem few_any (L : List Cnd) (a : Option Addr) (n c : Nat) (N : Nat) (w : World) (hL : CandsV w a n L) (hNN : N ≤ 1000) :
    Calls Try.prog 8 #[.slice a n c, .int .i64 N] w fun e w' => TellsB e (n ≤ N ∧ ∀ c ∈ L, c.pl ≤ 12) ∧ Below w.heap.size w w' :=
  (few2_any L a n c N w hL hNN).mono fun _ _ ⟨⟨b, h1, h2⟩, hB⟩ => ⟨⟨b, h1, fun h => ⟨(h2 h).1, fun c hc => ((h2 h).2 c hc).1⟩⟩, hB⟩
end Go.Proofs.Ythfchjcbkmabpaa
