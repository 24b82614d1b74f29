/- The key of a candidate: what the program lays into an array of eight numbers. -/
import Derived.Test.YthfchjcbkmabpaaRB
import Derived.Test.YthfchjcbkmabpaaFlow
import Derived.Deep.RegionHeld
import Derived.Deep.DeepCutAuto
import Derived.Deep.RegionHeld3
namespace Go.Proofs.Ythfchjcbkmabpaa
open Go.RowKit

theorem Try.info49 : (Try.prog.info? 49).map (·.size) = some 8 := by kernel_rfl
def z8 : Array Value := #[.int .i64 0, .int .i64 0, .int .i64 0, .int .i64 0, .int .i64 0, .int .i64 0, .int .i64 0, .int .i64 0]
/-- the numbers that two candidates are held against one another by -/
def Cnd.key (c : Cnd) (i : Nat) : Int :=
  match i with
  | 0 => IntKind.i64.wrap (-c.pre)
  | 1 => cnt c.segs
  | 2 => c.origin
  | 3 => c.md
  | 4 => if c.ext = true then 0 else 1
  | 5 => IntKind.i64.wrap c.id
  | 6 => IntKind.i64.wrap c.addr
  | _ => c.peer
def Cnd.keys (c : Cnd) : List Value := [.int .i64 (c.key 0), .int .i64 (c.key 1), .int .i64 (c.key 2), .int .i64 (c.key 3), .int .i64 (c.key 4), .int .i64 (c.key 5), .int .i64 (c.key 6), .int .i64 (c.key 7)]

/-- c with vs laid into it from o on -/
def lay (c : Array Value) : Nat → List Value → Array Value
  | _, [] => c
  | o, v :: r => lay (c.setIfInBounds o v) (o + 1) r
theorem lay_size : ∀ (vs : List Value) (c : Array Value) (o : Nat), (lay c o vs).size = c.size
  | [], _, _ => rfl
  | v :: r, c, o => by rw [lay, lay_size r]; simp
theorem lay_get : ∀ (vs : List Value) (c : Array Value) (o i : Nat), o + vs.length ≤ c.size → (lay c o vs)[i]? = if o ≤ i ∧ i < o + vs.length then vs[i - o]? else c[i]?
  | [], _, o, i, _ => by rw [lay, if_neg (by simp)]
  | v :: r, _, o, i, h => by
    simp only [List.length_cons] at h ⊢
    rw [lay, lay_get r _ _ _ (by simp; omega), Array.getElem?_setIfInBounds]
    by_cases h1 : o + 1 ≤ i ∧ i < o + 1 + r.length
    · rw [if_pos h1, if_pos (show o ≤ i ∧ i < o + (r.length + 1) by omega), show i - o = (i - (o + 1)) + 1 by omega, List.getElem?_cons_succ]
    · rw [if_neg h1]
      by_cases h2 : o = i
      · subst h2
        rw [if_pos rfl, if_pos (by omega), if_pos (by omega)]
        simp
      · rw [if_neg h2, if_neg (by omega)]
theorem heap_setCells {e : TypeId} {f : Nat × Nat} {b : Nat} : ∀ (vs : List Value) (w : World) (c : Array Value) (o : Nat), w.heap[b]? = some (.cells c e f) → (w.setCells b o vs).heap[b]? = some (.cells (lay c o vs) e f)
  | [], _, _, _, h => h
  | v :: r, w, _, o, h => heap_setCells r (w.setCell ⟨b, o, none⟩ v) _ (o + 1) (heap_setCell_same h o v)
theorem heap_setCells_far {b k : Nat} (hn : k ≠ b) : ∀ (vs : List Value) (w : World) (o : Nat), (w.setCells b o vs).heap[k]? = w.heap[k]?
  | [], _, _ => rfl
  | v :: r, w, o => (heap_setCells_far hn r (w.setCell ⟨b, o, none⟩ v) (o + 1)).trans (Below.heap_setCell _ _ _ _ hn)
theorem below_setCells {B b : Nat} {w : World} (hb : B ≤ b) : ∀ (vs : List Value) (W : World) (o : Nat), Below B w W → Below B w (W.setCells b o vs)
  | [], _, _, h => h
  | v :: r, W, o, h => below_setCells hb r (W.setCell ⟨b, o, none⟩ v) (o + 1) (h.setCell hb v)
theorem there_of {w : World} {b : Nat} {c : Array Value} {e : TypeId} (h : w.heap[b]? = some (.cells c e (0, 0))) (o n : Nat) (hn : o + n ≤ c.size) : w.there b o n := fun j hj => by
  have hlt : o + j < c.size := by omega
  exact ⟨by simp [World.cell?, h, hlt], frozenOf h _⟩
def keyArr (x0 x1 x2 x3 x4 x5 x6 x7 : Int) : List Value := [.int .i64 x0, .int .i64 x1, .int .i64 x2, .int .i64 x3, .int .i64 x4, .int .i64 x5, .int .i64 x6, .int .i64 x7]
theorem store8 {b : Nat} {w : World} {c : Array Value} {e : TypeId} (h : w.heap[b]? = some (.cells c e (0, 0))) (o : Nat) (ho : o + 8 ≤ c.size) (x0 x1 x2 x3 x4 x5 x6 x7 : Int) :
    (storeVar 49 ⟨b, o, none⟩ (.agg #[.int .i64 x0, .int .i64 x1, .int .i64 x2, .int .i64 x3, .int .i64 x4, .int .i64 x5, .int .i64 x6, .int .i64 x7])).run Try.prog w = .ok () (w.setCells b o (keyArr x0 x1 x2 x3 x4 x5 x6 x7)) :=
  run_storeVar_mid w b o 49 #[.int .i64 x0, .int .i64 x1, .int .i64 x2, .int .i64 x3, .int .i64 x4, .int .i64 x5, .int .i64 x6, .int .i64 x7] (there_of h _ _ ho) Try.info49 (by simp [Value.oneCell'])
/-- the candidate's block stands, and nothing below it has turned -/
structure SK (k : Nat) (c : Cnd) (w W : World) : Prop where
  blk : W.heap[k]? = some (.cells c.cells.toArray 34 (0, 0))
  bel : Below k w W
  arr : W.heap[k + 1]? = some (.cells z8 49 (0, 0))
theorem SK.below {k : Nat} {c : Cnd} {w W W' : World} (h : SK k c w W) (hB : Below W.heap.size W W') : SK k c w W' :=
  ⟨heap_below hB h.blk (ltOf h.blk), h.bel.trans (hB.mono h.bel.size |> fun _ => hB.mono (Nat.le_of_lt (ltOf h.blk))), heap_below hB h.arr (ltOf h.arr)⟩
theorem SK.drew {k : Nat} {c : Cnd} {w W : World} (h : SK k c w W) : SK k c w W.drew := ⟨h.blk, h.bel.drew, h.arr⟩
theorem all_one8 (c : Cnd) : c.keys.toArray.all (·.oneCell') = true := by simp [Cnd.keys, Value.oneCell']
theorem results_key {fn : Func} {p : Tmp} (h : fn.results = #[.cell p 49]) (tmps : Array Value) (w : World) (g : Nat) (cs : Array Value) (hs : cs.size = 8) (hp : tmps.getD p undef = .pointer (some ⟨g, 0, none⟩)) (hg : w.heap[g]? = some (.cells cs 49 (0, 0))) :
    (results fn tmps).run Try.prog w = .ok (.agg cs) w := by
  have := run_loadVar_row (P := Try.prog) w g 49 49 cs (0, 0) _ hg Try.underlying49 rfl (by rw [hs]; exact Try.info49)
  have hp' : tmps[p]?.getD undef = .pointer (some ⟨g, 0, none⟩) := by rw [← hp]; simp [Array.getD_eq_getD_getElem?]
  simp only [results, h]
  simp [hp', asAddr, this]
theorem below_setRow {B : Nat} {w w' : World} (h : Below B w w') (g : Nat) (hg : B ≤ g) (cs : Array Value) : Below B w (w'.setRow g cs) :=
  ⟨h.os, h.tape, h.output, by simpa [World.setRow] using h.size, fun k hk => by rw [setRow_other _ _ _ _ (by omega)]; exact h.block k hk⟩

set_option maxHeartbeats 4000000 in
theorem keyed_any (c : Cnd) (w : World) (h : c.at w) (hn : c.pl ≤ 1000000) :
    Calls Try.prog 23 #[c.val] w fun e w' => e = .returned (.agg c.keys.toArray) ∧ Below w.heap.size w w' := by
  have h0 : SK w.heap.size c w ((w.alloc (.cells c.cells.toArray 34)).alloc (.cells #[.int .i64 0, .int .i64 0, .int .i64 0, .int .i64 0, .int .i64 0, .int .i64 0, .int .i64 0, .int .i64 0] 49)) :=
    ⟨heap_alloc_at (heap_alloc_new w _) _, ((Below.refl w.heap.size w).alloc (Nat.le_refl _) (.cells c.cells.toArray 34)).alloc (by simp) (.cells z8 49), heap_alloc_top _ _ _ (by simp)⟩
  have hR0 : ∀ W, SK w.heap.size c w W → W.rangeAt w.heap.size 0 c.cells := fun W hW j v hv => cellOf hW.blk (0 + j) (by simpa using hv)
  have e0 : ∀ W, SK w.heap.size c w W → W.cell? ⟨w.heap.size, 0, none⟩ = some (.int .i64 c.peer) := fun W hW => cellOf hW.blk 0 rfl
  have e3 : ∀ W, SK w.heap.size c w W → W.cell? ⟨w.heap.size, 3, none⟩ = some (.int .u32 c.id) := fun W hW => cellOf hW.blk 3 rfl
  have e4 : ∀ W, SK w.heap.size c w W → W.cell? ⟨w.heap.size, 4, none⟩ = some (.int .u32 c.addr) := fun W hW => cellOf hW.blk 4 rfl
  have e5 : ∀ W, SK w.heap.size c w W → W.cell? ⟨w.heap.size, 5, none⟩ = some (.int .i64 c.origin) := fun W hW => cellOf hW.blk 5 rfl
  have e6 : ∀ W, SK w.heap.size c w W → W.cell? ⟨w.heap.size, 6, none⟩ = some (.slice c.pa c.pl c.pc) := fun W hW => cellOf hW.blk 6 rfl
  have e1 := cellOf h0.blk 1 (v := .bool c.ext) rfl
  have HL := hidp hR0
  have E0 := hidp e0
  have E3 := hidp e3
  have E4 := hidp e4
  have E5 := hidp e5
  have E6 := hidp e6
  have H0 := hidp h0
  clear h0 hR0 e0 e3 e4 e5 e6
  unfold Cnd.val
  go_enter Try.func23, Try.ntmps23
  go_upto_region 4 with (fail)
  all_goals
    rename_i hext _ _
    have HE := hidp hext
    clear hext
    have hR := HL.out
    have e0 := E0.out
    have e3 := E3.out
    have e4 := E4.out
    have e5 := E5.out
    have e6 := E6.out
    have h0 := H0.out.drew
    generalize (w.alloc (.cells c.cells.toArray 34)).alloc (.cells #[.int .i64 0, .int .i64 0, .int .i64 0, .int .i64 0, .int .i64 0, .int .i64 0, .int .i64 0, .int .i64 0] 49) = W0 at *
  · refine wp_region_flow (fun iqv => ([(.agg c.cells.toArray : Value), (.int .i64 c.pre : Value), (.int .i64 (c.key 0) : Value), (.pointer (some ⟨w.heap.size, 5, none⟩) : Value), (.pointer (some ⟨w.heap.size, 6, none⟩) : Value), (.slice c.pa c.pl c.pc : Value), (.int .i64 (cnt c.segs) : Value), (.pointer (some ⟨w.heap.size, 5, none⟩) : Value), (.pointer (some ⟨w.heap.size, 5, none⟩) : Value), (.int .i64 c.origin : Value), (.agg c.cells.toArray : Value), (.int .i64 c.md : Value), (.int .i64 0 : Value), (.pointer (some ⟨w.heap.size, 3, none⟩) : Value), (.int .u32 c.id : Value), (.int .i64 (IntKind.i64.wrap c.id) : Value), (.pointer (some ⟨w.heap.size, 4, none⟩) : Value), (.int .u32 c.addr : Value), (.int .i64 (IntKind.i64.wrap c.addr) : Value), (.pointer (some ⟨w.heap.size, 0, none⟩) : Value), (.int .i64 c.peer : Value), (.agg #[.int .i64 (c.key 0), .int .i64 (c.key 1), .int .i64 (c.key 2), .int .i64 (c.key 3), .int .i64 0, .int .i64 (c.key 5), .int .i64 (c.key 6), .int .i64 (c.key 7)] : Value)] : List Value).getD iqv undef) (fun W : World => SK w.heap.size c w W) 22 (by kernel_rfl) (by kernel_rfl) h0 (fun iq hiq => ?_) (fun aq W hSW hf => ?_)
    · match iq, hiq with
      | 0, _ =>
        intro aq W hSW hf
        have v1 := hf.at_base 1 (by kernel_rfl)
        simp only [List.getElem?_toArray, List.getElem?_cons_succ, List.getElem?_cons_zero] at v1
        clear hf
        refine wpOp_flow rfl (by rfl) (fun Kq hK => ?_)
        refine wp_load_mid 34 (.tmp 1) rfl w.heap.size 0 (eval_of v1) c.cells _ (hR W hSW) Try.underlying34 rfl (by rw [Cnd.len]; exact Try.info34) (hK _ _ ⟨rfl, hSW⟩)
      | 1, _ =>
        intro aq W hSW hf
        have v6 : aq.tmps[6]? = some (.agg c.cells.toArray) := hf.val 0 6 (by kernel_rfl) rfl
        clear hf
        refine wpOp_flow rfl (by rfl) (fun Kq hK => ?_)
        go_simp
        refine (pref_any c _).mono ?_
        rintro e w1 ⟨rfl, B1⟩
        exact hK _ _ ⟨rfl, hSW.below B1⟩
      | 2, _ =>
        intro aq W hSW hf
        have v7 : aq.tmps[7]? = some (.int .i64 c.pre) := hf.val 1 7 (by kernel_rfl) rfl
        clear hf
        refine wpOp_flow rfl (by rfl) (fun Kq hK => ?_)
        go_simp
        exact hK _ _ ⟨rfl, hSW⟩
      | 3, _ =>
        intro aq W hSW hf
        have v1 := hf.at_base 1 (by kernel_rfl)
        simp only [List.getElem?_toArray, List.getElem?_cons_succ, List.getElem?_cons_zero] at v1
        clear hf
        refine wpOp_flow rfl (by rfl) (fun Kq hK => ?_)
        go_simp
        exact hK _ _ ⟨rfl, hSW⟩
      | 4, _ =>
        intro aq W hSW hf
        have v9 : aq.tmps[9]? = some (.pointer (some ⟨w.heap.size, 5, none⟩)) := hf.val 3 9 (by kernel_rfl) rfl
        clear hf
        refine wpOp_flow rfl (by rfl) (fun Kq hK => ?_)
        go_simp
        exact hK _ _ ⟨rfl, hSW⟩
      | 5, _ =>
        intro aq W hSW hf
        have v10 : aq.tmps[10]? = some (.pointer (some ⟨w.heap.size, 6, none⟩)) := hf.val 4 10 (by kernel_rfl) rfl
        clear hf
        refine wpOp_flow rfl (by rfl) (fun Kq hK => ?_)
        go_simp
        exact hK _ _ ⟨rfl, hSW⟩
      | 6, _ =>
        intro aq W hSW hf
        have v11 : aq.tmps[11]? = some (.slice c.pa c.pl c.pc) := hf.val 5 11 (by kernel_rfl) rfl
        clear hf
        refine wpOp_flow rfl (by rfl) (fun Kq hK => ?_)
        go_simp
        refine (count_any _ _ _ c.segs _ (h.below hSW.bel) hn).mono ?_
        rintro e w1 ⟨rfl, B1⟩
        exact hK _ _ ⟨rfl, hSW.below B1⟩
      | 7, _ =>
        intro aq W hSW hf
        have v1 := hf.at_base 1 (by kernel_rfl)
        simp only [List.getElem?_toArray, List.getElem?_cons_succ, List.getElem?_cons_zero] at v1
        clear hf
        refine wpOp_flow rfl (by rfl) (fun Kq hK => ?_)
        go_simp
        exact hK _ _ ⟨rfl, hSW⟩
      | 8, _ =>
        intro aq W hSW hf
        have v13 : aq.tmps[13]? = some (.pointer (some ⟨w.heap.size, 5, none⟩)) := hf.val 7 13 (by kernel_rfl) rfl
        clear hf
        refine wpOp_flow rfl (by rfl) (fun Kq hK => ?_)
        go_simp
        exact hK _ _ ⟨rfl, hSW⟩
      | 9, _ =>
        intro aq W hSW hf
        have v14 : aq.tmps[14]? = some (.pointer (some ⟨w.heap.size, 5, none⟩)) := hf.val 8 14 (by kernel_rfl) rfl
        clear hf
        refine wpOp_flow rfl (by rfl) (fun Kq hK => ?_)
        go_simp
        exact hK _ _ ⟨rfl, hSW⟩
      | 10, _ =>
        intro aq W hSW hf
        have v1 := hf.at_base 1 (by kernel_rfl)
        simp only [List.getElem?_toArray, List.getElem?_cons_succ, List.getElem?_cons_zero] at v1
        clear hf
        refine wpOp_flow rfl (by rfl) (fun Kq hK => ?_)
        refine wp_load_mid 34 (.tmp 1) rfl w.heap.size 0 (eval_of v1) c.cells _ (hR W hSW) Try.underlying34 rfl (by rw [Cnd.len]; exact Try.info34) (hK _ _ ⟨rfl, hSW⟩)
      | 11, _ =>
        intro aq W hSW hf
        have v16 : aq.tmps[16]? = some (.agg c.cells.toArray) := hf.val 10 16 (by kernel_rfl) rfl
        clear hf
        refine wpOp_flow rfl (by rfl) (fun Kq hK => ?_)
        go_simp
        refine (med_any c _).mono ?_
        rintro e w1 ⟨rfl, B1⟩
        exact hK _ _ ⟨rfl, hSW.below B1⟩
      | 12, _ =>
        intro aq W hSW hf
        have v3 := hf.at_base 3 (by kernel_rfl)
        simp only [List.getElem?_toArray, List.getElem?_cons_succ, List.getElem?_cons_zero] at v3
        clear hf
        refine wpOp_flow rfl (by rfl) (fun Kq hK => ?_)
        go_simp
        exact hK _ _ ⟨rfl, hSW⟩
      | 13, _ =>
        intro aq W hSW hf
        have v1 := hf.at_base 1 (by kernel_rfl)
        simp only [List.getElem?_toArray, List.getElem?_cons_succ, List.getElem?_cons_zero] at v1
        clear hf
        refine wpOp_flow rfl (by rfl) (fun Kq hK => ?_)
        go_simp
        exact hK _ _ ⟨rfl, hSW⟩
      | 14, _ =>
        intro aq W hSW hf
        have v19 : aq.tmps[19]? = some (.pointer (some ⟨w.heap.size, 3, none⟩)) := hf.val 13 19 (by kernel_rfl) rfl
        clear hf
        refine wpOp_flow rfl (by rfl) (fun Kq hK => ?_)
        go_simp
        exact hK _ _ ⟨rfl, hSW⟩
      | 15, _ =>
        intro aq W hSW hf
        have v20 : aq.tmps[20]? = some (.int .u32 c.id) := hf.val 14 20 (by kernel_rfl) rfl
        clear hf
        refine wpOp_flow rfl (by rfl) (fun Kq hK => ?_)
        go_simp
        exact hK _ _ ⟨rfl, hSW⟩
      | 16, _ =>
        intro aq W hSW hf
        have v1 := hf.at_base 1 (by kernel_rfl)
        simp only [List.getElem?_toArray, List.getElem?_cons_succ, List.getElem?_cons_zero] at v1
        clear hf
        refine wpOp_flow rfl (by rfl) (fun Kq hK => ?_)
        go_simp
        exact hK _ _ ⟨rfl, hSW⟩
      | 17, _ =>
        intro aq W hSW hf
        have v22 : aq.tmps[22]? = some (.pointer (some ⟨w.heap.size, 4, none⟩)) := hf.val 16 22 (by kernel_rfl) rfl
        clear hf
        refine wpOp_flow rfl (by rfl) (fun Kq hK => ?_)
        go_simp
        exact hK _ _ ⟨rfl, hSW⟩
      | 18, _ =>
        intro aq W hSW hf
        have v23 : aq.tmps[23]? = some (.int .u32 c.addr) := hf.val 17 23 (by kernel_rfl) rfl
        clear hf
        refine wpOp_flow rfl (by rfl) (fun Kq hK => ?_)
        go_simp
        exact hK _ _ ⟨rfl, hSW⟩
      | 19, _ =>
        intro aq W hSW hf
        have v1 := hf.at_base 1 (by kernel_rfl)
        simp only [List.getElem?_toArray, List.getElem?_cons_succ, List.getElem?_cons_zero] at v1
        clear hf
        refine wpOp_flow rfl (by rfl) (fun Kq hK => ?_)
        go_simp
        exact hK _ _ ⟨rfl, hSW⟩
      | 20, _ =>
        intro aq W hSW hf
        have v25 : aq.tmps[25]? = some (.pointer (some ⟨w.heap.size, 0, none⟩)) := hf.val 19 25 (by kernel_rfl) rfl
        clear hf
        refine wpOp_flow rfl (by rfl) (fun Kq hK => ?_)
        go_simp
        exact hK _ _ ⟨rfl, hSW⟩
      | 21, _ =>
        intro aq W hSW hf
        have v8 : aq.tmps[8]? = some (.int .i64 (c.key 0)) := hf.val 2 8 (by kernel_rfl) rfl
        have v12 : aq.tmps[12]? = some (.int .i64 (cnt c.segs)) := hf.val 6 12 (by kernel_rfl) rfl
        have v15 : aq.tmps[15]? = some (.int .i64 c.origin) := hf.val 9 15 (by kernel_rfl) rfl
        have v17 : aq.tmps[17]? = some (.int .i64 c.md) := hf.val 11 17 (by kernel_rfl) rfl
        have v18 : aq.tmps[18]? = some (.int .i64 0) := hf.val 12 18 (by kernel_rfl) rfl
        have v21 : aq.tmps[21]? = some (.int .i64 (IntKind.i64.wrap c.id)) := hf.val 15 21 (by kernel_rfl) rfl
        have v24 : aq.tmps[24]? = some (.int .i64 (IntKind.i64.wrap c.addr)) := hf.val 18 24 (by kernel_rfl) rfl
        have v26 : aq.tmps[26]? = some (.int .i64 c.peer) := hf.val 20 26 (by kernel_rfl) rfl
        clear hf
        refine wpOp_flow rfl (by rfl) (fun Kq hK => ?_)
        go_simp
        exact hK _ _ ⟨rfl, hSW⟩
      | kq + 22, hk => exact absurd hk (by first | omega | (intro h; simp at h; omega))
    · have v2 := hf.at_base 2 (by kernel_rfl)
      simp only [List.getElem?_toArray, List.getElem?_cons_succ, List.getElem?_cons_zero] at v2
      have v27 : aq.tmps[27]? = some (.agg #[.int .i64 (c.key 0), .int .i64 (c.key 1), .int .i64 (c.key 2), .int .i64 (c.key 3), .int .i64 0, .int .i64 (c.key 5), .int .i64 (c.key 6), .int .i64 (c.key 7)]) := hf.val 21 27 (by kernel_rfl) rfl
      have hdq := hf.defers
      clear hf
      refine wpOp_flow rfl (by rfl) (fun Kq hK => ?_)
      have hk4 : #[.int .i64 (c.key 0), .int .i64 (c.key 1), .int .i64 (c.key 2), .int .i64 (c.key 3), .int .i64 0, .int .i64 (c.key 5), .int .i64 (c.key 6), .int .i64 (c.key 7)] = c.keys.toArray := by simp [Cnd.keys, show c.key 4 = 0 by simp [Cnd.key, HE.out]]
      rw [hk4] at v27
      refine wp_store_row 49 (.tmp 2) (.tmp 27) rfl (w.heap.size + 1) c.keys.toArray (eval_of v2) (eval_of v27) 49 _ hSW.arr Try.info49 rfl (all_one8 c) (hK _ _ ?_)
      have h2 := setRow_heap W _ _ c.keys.toArray _ _ hSW.arr
      have hb2 := below_setRow hSW.bel (w.heap.size + 1) (by omega) c.keys.toArray
      generalize W.setRow (w.heap.size + 1) c.keys.toArray = W2 at *
      go_wp2
      exact bodyPost_ret (results_key rfl _ _ (w.heap.size + 1) c.keys.toArray rfl (eval_of v2) h2) hdq ⟨rfl, hb2⟩
  · refine wp_region_flow (fun iqv => ([(.agg c.cells.toArray : Value), (.int .i64 c.pre : Value), (.int .i64 (c.key 0) : Value), (.pointer (some ⟨w.heap.size, 5, none⟩) : Value), (.pointer (some ⟨w.heap.size, 6, none⟩) : Value), (.slice c.pa c.pl c.pc : Value), (.int .i64 (cnt c.segs) : Value), (.pointer (some ⟨w.heap.size, 5, none⟩) : Value), (.pointer (some ⟨w.heap.size, 5, none⟩) : Value), (.int .i64 c.origin : Value), (.agg c.cells.toArray : Value), (.int .i64 c.md : Value), (.int .i64 1 : Value), (.pointer (some ⟨w.heap.size, 3, none⟩) : Value), (.int .u32 c.id : Value), (.int .i64 (IntKind.i64.wrap c.id) : Value), (.pointer (some ⟨w.heap.size, 4, none⟩) : Value), (.int .u32 c.addr : Value), (.int .i64 (IntKind.i64.wrap c.addr) : Value), (.pointer (some ⟨w.heap.size, 0, none⟩) : Value), (.int .i64 c.peer : Value), (.agg #[.int .i64 (c.key 0), .int .i64 (c.key 1), .int .i64 (c.key 2), .int .i64 (c.key 3), .int .i64 1, .int .i64 (c.key 5), .int .i64 (c.key 6), .int .i64 (c.key 7)] : Value)] : List Value).getD iqv undef) (fun W : World => SK w.heap.size c w W) 22 (by kernel_rfl) (by kernel_rfl) h0 (fun iq hiq => ?_) (fun aq W hSW hf => ?_)
    · match iq, hiq with
      | 0, _ =>
        intro aq W hSW hf
        have v1 := hf.at_base 1 (by kernel_rfl)
        simp only [List.getElem?_toArray, List.getElem?_cons_succ, List.getElem?_cons_zero] at v1
        clear hf
        refine wpOp_flow rfl (by rfl) (fun Kq hK => ?_)
        refine wp_load_mid 34 (.tmp 1) rfl w.heap.size 0 (eval_of v1) c.cells _ (hR W hSW) Try.underlying34 rfl (by rw [Cnd.len]; exact Try.info34) (hK _ _ ⟨rfl, hSW⟩)
      | 1, _ =>
        intro aq W hSW hf
        have v6 : aq.tmps[6]? = some (.agg c.cells.toArray) := hf.val 0 6 (by kernel_rfl) rfl
        clear hf
        refine wpOp_flow rfl (by rfl) (fun Kq hK => ?_)
        go_simp
        refine (pref_any c _).mono ?_
        rintro e w1 ⟨rfl, B1⟩
        exact hK _ _ ⟨rfl, hSW.below B1⟩
      | 2, _ =>
        intro aq W hSW hf
        have v7 : aq.tmps[7]? = some (.int .i64 c.pre) := hf.val 1 7 (by kernel_rfl) rfl
        clear hf
        refine wpOp_flow rfl (by rfl) (fun Kq hK => ?_)
        go_simp
        exact hK _ _ ⟨rfl, hSW⟩
      | 3, _ =>
        intro aq W hSW hf
        have v1 := hf.at_base 1 (by kernel_rfl)
        simp only [List.getElem?_toArray, List.getElem?_cons_succ, List.getElem?_cons_zero] at v1
        clear hf
        refine wpOp_flow rfl (by rfl) (fun Kq hK => ?_)
        go_simp
        exact hK _ _ ⟨rfl, hSW⟩
      | 4, _ =>
        intro aq W hSW hf
        have v9 : aq.tmps[9]? = some (.pointer (some ⟨w.heap.size, 5, none⟩)) := hf.val 3 9 (by kernel_rfl) rfl
        clear hf
        refine wpOp_flow rfl (by rfl) (fun Kq hK => ?_)
        go_simp
        exact hK _ _ ⟨rfl, hSW⟩
      | 5, _ =>
        intro aq W hSW hf
        have v10 : aq.tmps[10]? = some (.pointer (some ⟨w.heap.size, 6, none⟩)) := hf.val 4 10 (by kernel_rfl) rfl
        clear hf
        refine wpOp_flow rfl (by rfl) (fun Kq hK => ?_)
        go_simp
        exact hK _ _ ⟨rfl, hSW⟩
      | 6, _ =>
        intro aq W hSW hf
        have v11 : aq.tmps[11]? = some (.slice c.pa c.pl c.pc) := hf.val 5 11 (by kernel_rfl) rfl
        clear hf
        refine wpOp_flow rfl (by rfl) (fun Kq hK => ?_)
        go_simp
        refine (count_any _ _ _ c.segs _ (h.below hSW.bel) hn).mono ?_
        rintro e w1 ⟨rfl, B1⟩
        exact hK _ _ ⟨rfl, hSW.below B1⟩
      | 7, _ =>
        intro aq W hSW hf
        have v1 := hf.at_base 1 (by kernel_rfl)
        simp only [List.getElem?_toArray, List.getElem?_cons_succ, List.getElem?_cons_zero] at v1
        clear hf
        refine wpOp_flow rfl (by rfl) (fun Kq hK => ?_)
        go_simp
        exact hK _ _ ⟨rfl, hSW⟩
      | 8, _ =>
        intro aq W hSW hf
        have v13 : aq.tmps[13]? = some (.pointer (some ⟨w.heap.size, 5, none⟩)) := hf.val 7 13 (by kernel_rfl) rfl
        clear hf
        refine wpOp_flow rfl (by rfl) (fun Kq hK => ?_)
        go_simp
        exact hK _ _ ⟨rfl, hSW⟩
      | 9, _ =>
        intro aq W hSW hf
        have v14 : aq.tmps[14]? = some (.pointer (some ⟨w.heap.size, 5, none⟩)) := hf.val 8 14 (by kernel_rfl) rfl
        clear hf
        refine wpOp_flow rfl (by rfl) (fun Kq hK => ?_)
        go_simp
        exact hK _ _ ⟨rfl, hSW⟩
      | 10, _ =>
        intro aq W hSW hf
        have v1 := hf.at_base 1 (by kernel_rfl)
        simp only [List.getElem?_toArray, List.getElem?_cons_succ, List.getElem?_cons_zero] at v1
        clear hf
        refine wpOp_flow rfl (by rfl) (fun Kq hK => ?_)
        refine wp_load_mid 34 (.tmp 1) rfl w.heap.size 0 (eval_of v1) c.cells _ (hR W hSW) Try.underlying34 rfl (by rw [Cnd.len]; exact Try.info34) (hK _ _ ⟨rfl, hSW⟩)
      | 11, _ =>
        intro aq W hSW hf
        have v16 : aq.tmps[16]? = some (.agg c.cells.toArray) := hf.val 10 16 (by kernel_rfl) rfl
        clear hf
        refine wpOp_flow rfl (by rfl) (fun Kq hK => ?_)
        go_simp
        refine (med_any c _).mono ?_
        rintro e w1 ⟨rfl, B1⟩
        exact hK _ _ ⟨rfl, hSW.below B1⟩
      | 12, _ =>
        intro aq W hSW hf
        have v3 := hf.at_base 3 (by kernel_rfl)
        simp only [List.getElem?_toArray, List.getElem?_cons_succ, List.getElem?_cons_zero] at v3
        clear hf
        refine wpOp_flow rfl (by rfl) (fun Kq hK => ?_)
        go_simp
        exact hK _ _ ⟨rfl, hSW⟩
      | 13, _ =>
        intro aq W hSW hf
        have v1 := hf.at_base 1 (by kernel_rfl)
        simp only [List.getElem?_toArray, List.getElem?_cons_succ, List.getElem?_cons_zero] at v1
        clear hf
        refine wpOp_flow rfl (by rfl) (fun Kq hK => ?_)
        go_simp
        exact hK _ _ ⟨rfl, hSW⟩
      | 14, _ =>
        intro aq W hSW hf
        have v19 : aq.tmps[19]? = some (.pointer (some ⟨w.heap.size, 3, none⟩)) := hf.val 13 19 (by kernel_rfl) rfl
        clear hf
        refine wpOp_flow rfl (by rfl) (fun Kq hK => ?_)
        go_simp
        exact hK _ _ ⟨rfl, hSW⟩
      | 15, _ =>
        intro aq W hSW hf
        have v20 : aq.tmps[20]? = some (.int .u32 c.id) := hf.val 14 20 (by kernel_rfl) rfl
        clear hf
        refine wpOp_flow rfl (by rfl) (fun Kq hK => ?_)
        go_simp
        exact hK _ _ ⟨rfl, hSW⟩
      | 16, _ =>
        intro aq W hSW hf
        have v1 := hf.at_base 1 (by kernel_rfl)
        simp only [List.getElem?_toArray, List.getElem?_cons_succ, List.getElem?_cons_zero] at v1
        clear hf
        refine wpOp_flow rfl (by rfl) (fun Kq hK => ?_)
        go_simp
        exact hK _ _ ⟨rfl, hSW⟩
      | 17, _ =>
        intro aq W hSW hf
        have v22 : aq.tmps[22]? = some (.pointer (some ⟨w.heap.size, 4, none⟩)) := hf.val 16 22 (by kernel_rfl) rfl
        clear hf
        refine wpOp_flow rfl (by rfl) (fun Kq hK => ?_)
        go_simp
        exact hK _ _ ⟨rfl, hSW⟩
      | 18, _ =>
        intro aq W hSW hf
        have v23 : aq.tmps[23]? = some (.int .u32 c.addr) := hf.val 17 23 (by kernel_rfl) rfl
        clear hf
        refine wpOp_flow rfl (by rfl) (fun Kq hK => ?_)
        go_simp
        exact hK _ _ ⟨rfl, hSW⟩
      | 19, _ =>
        intro aq W hSW hf
        have v1 := hf.at_base 1 (by kernel_rfl)
        simp only [List.getElem?_toArray, List.getElem?_cons_succ, List.getElem?_cons_zero] at v1
        clear hf
        refine wpOp_flow rfl (by rfl) (fun Kq hK => ?_)
        go_simp
        exact hK _ _ ⟨rfl, hSW⟩
      | 20, _ =>
        intro aq W hSW hf
        have v25 : aq.tmps[25]? = some (.pointer (some ⟨w.heap.size, 0, none⟩)) := hf.val 19 25 (by kernel_rfl) rfl
        clear hf
        refine wpOp_flow rfl (by rfl) (fun Kq hK => ?_)
        go_simp
        exact hK _ _ ⟨rfl, hSW⟩
      | 21, _ =>
        intro aq W hSW hf
        have v8 : aq.tmps[8]? = some (.int .i64 (c.key 0)) := hf.val 2 8 (by kernel_rfl) rfl
        have v12 : aq.tmps[12]? = some (.int .i64 (cnt c.segs)) := hf.val 6 12 (by kernel_rfl) rfl
        have v15 : aq.tmps[15]? = some (.int .i64 c.origin) := hf.val 9 15 (by kernel_rfl) rfl
        have v17 : aq.tmps[17]? = some (.int .i64 c.md) := hf.val 11 17 (by kernel_rfl) rfl
        have v18 : aq.tmps[18]? = some (.int .i64 1) := hf.val 12 18 (by kernel_rfl) rfl
        have v21 : aq.tmps[21]? = some (.int .i64 (IntKind.i64.wrap c.id)) := hf.val 15 21 (by kernel_rfl) rfl
        have v24 : aq.tmps[24]? = some (.int .i64 (IntKind.i64.wrap c.addr)) := hf.val 18 24 (by kernel_rfl) rfl
        have v26 : aq.tmps[26]? = some (.int .i64 c.peer) := hf.val 20 26 (by kernel_rfl) rfl
        clear hf
        refine wpOp_flow rfl (by rfl) (fun Kq hK => ?_)
        go_simp
        exact hK _ _ ⟨rfl, hSW⟩
      | kq + 22, hk => exact absurd hk (by first | omega | (intro h; simp at h; omega))
    · have v2 := hf.at_base 2 (by kernel_rfl)
      simp only [List.getElem?_toArray, List.getElem?_cons_succ, List.getElem?_cons_zero] at v2
      have v27 : aq.tmps[27]? = some (.agg #[.int .i64 (c.key 0), .int .i64 (c.key 1), .int .i64 (c.key 2), .int .i64 (c.key 3), .int .i64 1, .int .i64 (c.key 5), .int .i64 (c.key 6), .int .i64 (c.key 7)]) := hf.val 21 27 (by kernel_rfl) rfl
      have hdq := hf.defers
      clear hf
      refine wpOp_flow rfl (by rfl) (fun Kq hK => ?_)
      have hk4 : #[.int .i64 (c.key 0), .int .i64 (c.key 1), .int .i64 (c.key 2), .int .i64 (c.key 3), .int .i64 1, .int .i64 (c.key 5), .int .i64 (c.key 6), .int .i64 (c.key 7)] = c.keys.toArray := by simp [Cnd.keys, show c.key 4 = 1 by simp [Cnd.key, HE.out]]
      rw [hk4] at v27
      refine wp_store_row 49 (.tmp 2) (.tmp 27) rfl (w.heap.size + 1) c.keys.toArray (eval_of v2) (eval_of v27) 49 _ hSW.arr Try.info49 rfl (all_one8 c) (hK _ _ ?_)
      have h2 := setRow_heap W _ _ c.keys.toArray _ _ hSW.arr
      have hb2 := below_setRow hSW.bel (w.heap.size + 1) (by omega) c.keys.toArray
      generalize W.setRow (w.heap.size + 1) c.keys.toArray = W2 at *
      go_wp2
      exact bodyPost_ret (results_key rfl _ _ (w.heap.size + 1) c.keys.toArray rfl (eval_of v2) h2) hdq ⟨rfl, hb2⟩
end Go.Proofs.Ythfchjcbkmabpaa
