/- Lists of prefixes and updates as they lie; the guard of the laws: updates are few and small. -/
import Derived.Test.YtnenpfalhbbadaaPC
import Derived.Deep.WholeRow
namespace Go.Proofs.Ytnenpfalhbbadaa
open Go.RowKit

theorem flat_get {α : Type} (f : α → List Value) (k : Nat) (hk : ∀ x, (f x).length = k) : ∀ (l : List α) (i j : Nat) (hi : i < l.length), j < k → (l.flatMap f)[i * k + j]? = (f l[i])[j]?
  | [], _, _, hi, _ => absurd hi (by simp)
  | x :: r, 0, j, _, hj => by
    rw [List.flatMap_cons, Nat.zero_mul, Nat.zero_add, List.getElem?_append_left (by rw [hk]; exact hj)]
    rfl
  | x :: r, i + 1, j, hi, hj => by
    rw [List.flatMap_cons, List.getElem?_append_right (by rw [hk, Nat.add_mul]; omega), hk, show (i + 1) * k + j - k = i * k + j by rw [Nat.add_mul]; omega, flat_get f k hk r i j (by simpa using hi) hj]
    rfl
/-- prefixes lie in a row -/
def PfsV (w : World) (a : Option Addr) (n : Nat) (l : List Pf) : Prop := RowV w a n 2 (l.flatMap Pf.cells) ∧ l.length = n ∧ ∀ p ∈ l, p.ok
theorem PfsV.below {w w' : World} {a : Option Addr} {n : Nat} {l : List Pf} (h : PfsV w a n l) (hB : Below w.heap.size w w') : PfsV w' a n l := ⟨h.1.below hB, h.2⟩
theorem Pf.clen (p : Pf) : p.cells.length = 2 := rfl
theorem PfsV.row {w : World} {a : Option Addr} {n : Nat} {l : List Pf} (h : PfsV w a n l) (hn : 0 < n) : ∃ g o, a = some ⟨g, o, none⟩ ∧ ∀ j (hj : j < l.length), w.cell? ⟨g, o + j * 2, none⟩ = some (.int .u32 (l[j].a : Int)) ∧ w.cell? ⟨g, o + j * 2 + 1, none⟩ = some (.int .i64 l[j].l) := by
  obtain ⟨g, o, e, hr⟩ := h.1.2 hn
  refine ⟨g, o, e, fun j hj => ⟨?_, ?_⟩⟩
  · have := hr (j * 2 + 0) _ (flat_get Pf.cells 2 Pf.clen l j 0 hj (by decide))
    exact this
  · have := hr (j * 2 + 1) _ (flat_get Pf.cells 2 Pf.clen l j 1 hj (by decide))
    rw [← Nat.add_assoc] at this
    exact this
/-- an update -/
structure Upd where
  ga : Option Addr
  gn : Nat
  gc : Nat
  att : Att
  na : Option Addr
  nn : Nat
  nc : Nat
  gone : List Pf
  news : List Pf
def Upd.cells (u : Upd) : List Value := .slice u.ga u.gn u.gc :: (u.att.cells ++ [.slice u.na u.nn u.nc])
def Upd.val (u : Upd) : Value := .agg u.cells.toArray
theorem Upd.len (u : Upd) : u.cells.length = 13 := rfl
theorem Upd.all_one (u : Upd) : u.cells.toArray.all (·.oneCell') = true := by simp [Upd.cells, Att.cells, Value.oneCell']
structure Upd.at (w : World) (u : Upd) : Prop where
  gone : PfsV w u.ga u.gn u.gone
  att : u.att.at w
  news : PfsV w u.na u.nn u.news
theorem Upd.at.below {w w' : World} {u : Upd} (h : u.at w) (hB : Below w.heap.size w w') : u.at w' := ⟨h.gone.below hB, h.att.below hB, h.news.below hB⟩
theorem Try.info39 : (Try.prog.info? 39).map (·.size) = some 13 := by kernel_rfl
def UpdsV (w : World) (a : Option Addr) (n : Nat) (L : List Upd) : Prop := RowV w a n 13 (L.flatMap Upd.cells) ∧ L.length = n ∧ ∀ u ∈ L, u.at w
theorem UpdsV.below {w w' : World} {a : Option Addr} {n : Nat} {L : List Upd} (h : UpdsV w a n L) (hB : Below w.heap.size w w') : UpdsV w' a n L := ⟨h.1.below hB, h.2.1, fun u hu => (h.2.2 u hu).below hB⟩
theorem UpdsV.row {w : World} {a : Option Addr} {n : Nat} {L : List Upd} (h : UpdsV w a n L) (hn : 0 < n) : ∃ g o, a = some ⟨g, o, none⟩ ∧ ∀ j (hj : j < L.length), w.rangeAt g (o + j * 13) L[j].cells := by
  obtain ⟨g, o, e, hr⟩ := h.1.2 hn
  refine ⟨g, o, e, fun j hj k v hv => ?_⟩
  have hk : k < 13 := (List.getElem?_eq_some_iff.1 hv).1
  have := hr (j * 13 + k) v (by rw [flat_get Upd.cells 13 Upd.len L j k hj hk]; exact hv)
  rw [← Nat.add_assoc] at this
  exact this
/-- a list that is not empty lies somewhere -/
theorem RowV.here {w : World} {a : Option Addr} {n size : Nat} {xs : List Value} (h : RowV w a n size xs) (hn : 0 < n) : ∃ g o, a = some ⟨g, o, none⟩ ∧ w.rangeAt g o xs := h.2 hn

/-- told is a truth value; if it is true, p holds -/
def TellsB (e : Ending) (p : Prop) : Prop := ∃ b, e = .returned (.bool b) ∧ (b = true → p)
theorem TellsB.no (p : Prop) : TellsB (.returned (.bool false)) p := ⟨false, rfl, fun h => by cases h⟩
theorem TellsB.yes {p : Prop} (h : p) : TellsB (.returned (.bool true)) p := ⟨true, rfl, fun _ => h⟩

set_option maxHeartbeats 1000000 in
theorem few54 (a : Option Addr) (n c : Nat) (S : List Sg) (w : World) (h : RowV w a n 2 (S.flatMap Sg.cells) ∧ S.length = n) :
    Calls Try.prog 54 #[.slice a n c] w fun e w' => TellsB e (n ≤ 12) ∧ Below w.heap.size w w' := by
  have H := hidp h.1
  have HL := hidp h.2
  clear h
  by_cases h12 : (12 : Int) < n
  · go_enter Try.func54, Try.ntmps54
    go_wp2
    go_ret
    exact ⟨TellsB.no _, by go_grown⟩
  go_enter Try.func54, Try.ntmps54
  go_wp2
  go_loopw [3, 4] (fun x i wr => ∃ (j : Nat) (y : Int), j ≤ n ∧ i = .int .i64 j ∧ x = .int .i64 y ∧ Below w.heap.size w wr) (fun _ i _ => n - (intOf i).toNat)
  case atStart => exact ⟨0, _, by omega, rfl, rfl, Below.refl _ _⟩
  case round =>
    obtain ⟨j, y, hj, rfl, rfl, hB⟩ := hrel
    by_cases hlt : j < n
    · obtain ⟨g, o, rfl, h1⟩ := H.out.here (by omega)
      have hjl : j < S.length := by rw [HL.out]; exact hlt
      have d1 := below_cell hB (Nat.le_refl _) _ _ (h1 (j * 2 + 1) _ (flat_get Sg.cells 2 (fun _ => rfl) S j 1 hjl (by decide)))
      rw [← Nat.add_assoc] at d1
      have l1 : (j : Int) < (n : Int) := by omega
      generalize S[j] = s at d1
      clear h1
      go_wp2_with fail
      all_goals first
        | (go_ret
           exact ⟨TellsB.no _, hB⟩)
        | (go_roundw
           case rel => exact ⟨j + 1, _, by omega, by go_num, rfl, hB⟩
           case measure => simp [intOf]; omega)
    · have l1 : ¬ (j : Int) < (n : Int) := by omega
      go_wp2
      go_ret
      exact ⟨TellsB.yes (by omega), hB⟩
set_option maxHeartbeats 2000000 in
theorem few39 (v : Att) (w : World) (hv : v.at w) : Calls Try.prog 39 #[v.val] w fun e w' => TellsB e (v.pl ≤ 12 ∧ v.cl ≤ 60 ∧ v.rl ≤ 12) ∧ Below w.heap.size w w' := by
  have hb := (Below.refl w.heap.size w).alloc (Nat.le_refl _) (.cells v.cells.toArray 37)
  have k0 := heap_alloc_new w (.cells v.cells.toArray 37)
  have H := hidp (hv.below hb)
  have HB := hidp hb
  clear hb hv
  have hvv : v.val = .agg v.cells.toArray := rfl
  rw [hvv]
  clear hvv
  go_enter Try.func39, Try.ntmps39
  go_upto_region 1 with (fail)
  change Code.wp Try.prog _ _ _ (w.alloc (.cells v.cells.toArray 37))
  generalize w.alloc (.cells v.cells.toArray 37) = w0 at *
  have K0 := hidp k0
  have d1 := cellOf k0 1 (v := .slice v.pa v.pl v.pc) rfl
  clear k0
  go_wp2_with (go_at_call 54; refine (few54 _ _ _ v.segs _ H.out.path).mono ?_; rintro e w3 ⟨⟨b, rfl, hb⟩, B3⟩
               have k3 := heap_below B3 K0.out (ltOf K0.out)
               have d9 := cellOf k3 9 (v := .slice v.ca v.cl v.cc) rfl
               have d10 := cellOf k3 10 (v := .slice v.ra v.rl v.rc) rfl
               have HB3 := hidp (HB.out.trans (B3.mono HB.out.size))
               have HBB := hidp hb
               have HR := hidp (H.out.raws.1.below B3)
               clear hb B3 d1
               cases b)
  all_goals first
    | (go_ret
       exact ⟨TellsB.no _, HB3.out⟩)
    | skip
  have hle : v.cl ≤ 60 ∧ v.rl ≤ 12 := by simp_all; omega
  have HLE := hidp hle
  have HRL := hidp H.out.raws.2
  clear hle
  go_loopw [3] (fun i wr => ∃ j : Nat, j ≤ v.rl ∧ i = .int .i64 j ∧ wr = w3) (fun i _ => v.rl - (intOf i).toNat)
  case atStart => exact ⟨0, by omega, rfl, rfl⟩
  case round =>
    obtain ⟨j, hj, rfl, rfl⟩ := hrel
    by_cases hlt : j < v.rl
    · obtain ⟨g, o, e, h1⟩ := HR.out.here (by omega)
      rw [e] at d10
      clear e
      have hjl : j < v.raws.length := by rw [HRL.out]; exact hlt
      have d1 := h1 (j * 3 + 2) _ (flat_get Rw.cells 3 (fun _ => rfl) v.raws j 2 hjl (by decide))
      rw [← Nat.add_assoc] at d1
      have l1 : (j : Int) < (v.rl : Int) := by omega
      generalize v.raws[j] = s at d1
      clear h1
      go_wp2_with fail
      all_goals first
        | (go_ret
           exact ⟨TellsB.no _, HB3.out⟩)
        | (go_roundw
           case rel => exact ⟨j + 1, by omega, by go_num, trivial⟩
           case measure => simp [intOf]; omega)
    · have l1 : ¬ (j : Int) < (v.rl : Int) := by omega
      go_wp2
      go_ret
      exact ⟨TellsB.yes ⟨HBB.out (by simp), HLE.out⟩, HB3.out⟩
theorem upd_att {w : World} {b o : Nat} {u : Upd} (h : w.rangeAt b o u.cells) : w.rangeAt b (o + 1) u.att.cells := fun j x hx => by
  have hj : j < 11 := (List.getElem?_eq_some_iff.1 hx).1
  rw [Nat.add_assoc, Nat.add_comm 1 j]
  refine h (j + 1) x ?_
  rw [Upd.cells, List.getElem?_cons_succ, List.getElem?_append_left (by rw [Att.len]; exact hj)]
  exact hx
theorem range_of {w : World} {b : Nat} {l : List Value} {e : TypeId} {f : Nat × Nat} (h : w.heap[b]? = some (.cells l.toArray e f)) : w.rangeAt b 0 l := fun j x hx => cellOf h (0 + j) (by simpa using hx)
set_option maxRecDepth 100000 in
set_option maxHeartbeats 2000000 in
theorem few24 (u : Upd) (w : World) (hu : u.at w) : Calls Try.prog 24 #[u.val, .int .i64 30] w fun e w' => TellsB e ((u.att.pl ≤ 12 ∧ u.att.cl ≤ 60 ∧ u.att.rl ≤ 12) ∧ u.gn ≤ 30 ∧ u.nn ≤ 30) ∧ Below w.heap.size w w' := by
  have hb := (Below.refl w.heap.size w).alloc (Nat.le_refl _) (.cells u.cells.toArray 39)
  have k0 := heap_alloc_new w (.cells u.cells.toArray 39)
  have H := hidp (hu.below hb)
  have HB := hidp hb
  clear hb hu
  have huv : u.val = .agg u.cells.toArray := rfl
  rw [huv]
  clear huv
  have hvv : u.att.val = .agg u.att.cells.toArray := rfl
  have HF := hidp (fun W h => few39 u.att W h)
  rw [hvv] at HF
  clear hvv
  go_enter Try.func24, Try.ntmps24
  go_upto_region 1 with (fail)
  change Code.wp Try.prog _ _ _ (w.alloc (.cells u.cells.toArray 39))
  generalize w.alloc (.cells u.cells.toArray 39) = w0 at *
  have K0 := hidp k0
  have HR := hidp (upd_att (range_of k0))
  have hil : Hid ((Try.prog.info? 37).map (·.size) = some u.att.cells.length) := Try.info37
  clear k0
  go_wp2_with (first
    | (with_reducible refine wpList_load_mid rfl 37 (.tmp 5) rfl w.heap.size (0 + 1) rfl u.att.cells _ HR.out Try.underlying37 rfl hil.out ?_)
    | (go_at_call 39; refine (HF.out _ H.out.att).mono ?_; rintro e w3 ⟨⟨b, rfl, hb⟩, B3⟩
       have k3 := heap_below B3 K0.out (ltOf K0.out)
       have d0 := cellOf k3 0 (v := .slice u.ga u.gn u.gc) rfl
       have d12 := cellOf k3 12 (v := .slice u.na u.nn u.nc) rfl
       have HB3 := hidp (HB.out.trans (B3.mono HB.out.size))
       have HBB := hidp hb
       clear hb B3 k3
       cases b))
  all_goals go_ret
  all_goals first
    | exact ⟨TellsB.no _, HB3.out⟩
    | (refine ⟨⟨_, rfl, fun h => ⟨HBB.out (by simp), ?_⟩⟩, HB3.out⟩
       try simp at h
       omega)
/-- an update is small -/
def fewU (u : Upd) : Prop := (u.att.pl ≤ 12 ∧ u.att.cl ≤ 60 ∧ u.att.rl ≤ 12) ∧ u.gn ≤ 30 ∧ u.nn ≤ 30
set_option maxHeartbeats 2000000 in
theorem few7 (L : List Upd) (a : Option Addr) (n c : Nat) (N : Nat) (w : World) (hL : UpdsV w a n L) (hNN : N ≤ 1000) :
    Calls Try.prog 7 #[.slice a n c, .int .i64 N] w fun e w' => TellsB e (n ≤ N ∧ ∀ u ∈ L, fewU u) ∧ Below w.heap.size w w' := by
  have HL := hidp hL
  clear hL
  by_cases hN : (N : Int) < n
  · go_enter Try.func7, Try.ntmps7
    go_wp2
    go_ret
    exact ⟨TellsB.no _, Below.refl _ _⟩
  go_enter Try.func7, Try.ntmps7
  go_wp2
  go_loopw [5] (fun i wr => ∃ j : Nat, j ≤ n ∧ i = .int .i64 j ∧ (∀ u ∈ L.take j, fewU u) ∧ Below w.heap.size w wr) (fun i _ => n - (intOf i).toNat)
  case atStart => exact ⟨0, by omega, rfl, fun _ h => absurd h (by simp), Below.refl _ _⟩
  case round =>
    obtain ⟨j, hj, rfl, hp, hB⟩ := hrel
    obtain ⟨w1, rfl⟩ : ∃ w1, w1 = wr := ⟨_, rfl⟩
    have HP := hidp hp
    have HB := hidp hB
    clear hp hB
    by_cases hlt : j < n
    · have l1 : (j : Int) < (n : Int) := by omega
      have hL1 := HL.out.below HB.out
      obtain ⟨g, o, rfl, hrw⟩ := hL1.row (by omega)
      have hjl : j < L.length := by rw [hL1.2.1]; exact hlt
      have hr := hrw j hjl
      have hat := hL1.2.2 _ (List.getElem_mem hjl)
      have htk : L.take (j + 1) = L.take j ++ [L[j]] := List.take_succ_eq_append_getElem hjl
      generalize L[j] = x at *
      have HRA := hidp hr
      have HTK := hidp htk
      have hil : Hid ((Try.prog.info? 39).map (·.size) = some x.cells.length) := Try.info39
      have huv : x.val = .agg x.cells.toArray := rfl
      have HF := hidp (few24 x w1 hat)
      rw [huv] at HF
      clear htk hat hr hrw hL1 huv
      go_wp2_with (first
        | (with_reducible refine wpList_load_mid rfl 39 (.tmp 18) rfl g (o + j * 13) rfl x.cells _ HRA.out Try.underlying39 rfl hil.out ?_)
        | (go_at_call 24; refine HF.out.mono ?_; rintro e w3 ⟨⟨b, rfl, hb⟩, B3⟩
           have HB3 := hidp (HB.out.trans (B3.mono HB.out.size))
           have HBB := hidp hb
           clear hb B3
           cases b))
      all_goals first
        | (go_ret
           exact ⟨TellsB.no _, HB3.out⟩)
        | (go_roundw
           case rel =>
             refine ⟨j + 1, by omega, by go_num, fun y hy => ?_, HB3.out⟩
             rw [HTK.out] at hy
             rcases List.mem_append.1 hy with hy | hy
             · exact HP.out y hy
             · simp at hy
               subst hy
               exact HBB.out (by simp)
           case measure => simp [intOf]; omega)
    · have l1 : ¬ (j : Int) < (n : Int) := by omega
      obtain rfl : j = n := by omega
      have hpp := HP.out
      rw [List.take_of_length_le (by rw [HL.out.2.1]; omega)] at hpp
      have HPP := hidp hpp
      clear hpp
      go_wp2
      go_ret
      exact ⟨TellsB.yes ⟨by omega, HPP.out⟩, HB.out⟩
end Go.Proofs.Ytnenpfalhbbadaa
