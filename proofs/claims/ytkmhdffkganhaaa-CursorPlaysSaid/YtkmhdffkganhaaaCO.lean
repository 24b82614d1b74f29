/- Clone; Open. -/
import Derived.Test.YtkmhdffkganhaaaCT
import Derived.Deep.DeepCutAuto
import Derived.Deep.Cut
import Derived.Deep.RegionHeld
import Derived.Deep.RegionLaw
namespace Go.Proofs.Ytkmhdffkganhaaa
open Go.RowKit

theorem Try.infos27 : (Try.prog.info? 27).map (fun i => (i.zero, i.size, i.bytes)) = some (some (.int .u32 0), 1, 4) := by kernel_rfl
/-- cells that are read alone -/
def SrcV (w : World) (a : Option Addr) (n : Nat) (xs : List Value) : Prop :=
  xs.length = n ∧ (∀ u ∈ xs, u.oneCell' = true) ∧ (0 < n → ∃ ad, a = some ad ∧ ∀ j u, xs[j]? = some u → w.cell? (ad.add j) = some u)
theorem SrcV.below {w w' : World} {a : Option Addr} {n : Nat} {xs : List Value} (h : SrcV w a n xs) (hb : Below w.heap.size w w') : SrcV w' a n xs :=
  ⟨h.1, h.2.1, fun hp => by obtain ⟨ad, h1, h2⟩ := h.2.2 hp; exact ⟨ad, h1, fun j u hu => below_cell hb (Nat.le_refl _) _ _ (h2 j u hu)⟩⟩

theorem clone_any (a : Option Addr) (n c : Nat) (xs : List Value) (w : World) (h : SrcV w a n xs) (hn : n ≤ 1000) (ha : a = none → n = 0 ∧ c = 0) :
    Calls Try.prog 27 #[.slice a n c] w fun e w' => ∃ a' c', e = .returned (.slice a' n c') ∧ SrcV w' a' n xs ∧ (∀ ad, a' = some ad → w.heap.size ≤ ad.block) ∧ Below w.heap.size w w' := by
  cases a with
  | none =>
    obtain ⟨rfl, rfl⟩ := ha rfl
    have heq : ∀ w, (binOp BinOp.eql 30 (.slice none 0 0) (.slice none 0 0)).run Try.prog w = .ok (.bool true) w := fun w => by kernel_rfl
    go_enter Try.func27, Try.ntmps27
    go_wp2
    go_ret
    exact ⟨none, ⟨0, rfl⟩, h, by simp, Below.refl _ _⟩
  | some ad =>
    obtain ⟨i0, hi0, hz0, hz1, hz2⟩ := info_parts Try.infos27
    have heq : ∀ w, (binOp BinOp.eql 30 (.slice (some ad) n c) (.slice none 0 0)).run Try.prog w = .ok (.bool false) w := fun w => by kernel_rfl
    have H := hidp (h.below ((Below.refl w.heap.size w).alloc (Nat.le_refl _) (.cells #[] 27)))
    have hB := hidp ((Below.refl w.heap.size w).alloc (Nat.le_refl _) (.cells #[] 27))
    clear h
    go_enter Try.func27, Try.ntmps27
    go_wp2_with (first
      | (at_builtin
         refine wpList_append_src (w := w.alloc (.cells #[] 27)) rfl (.tmp 5) (.tmp 6) 30 rfl w.heap.size 27 i0 (.int .u32 0) 1 4 Try.underlying30 hi0 hz0 hz1 hz2 rfl (by omega) (.slice (some ⟨w.heap.size, 0, none⟩) 0 0) 0 [] rfl ⟨by simp, .inr ⟨w.heap.size, 0, #[], rfl, Nat.le_refl _, heap_alloc_new _ _, Nat.le_refl _, by unfold maxLen; omega, by simp, by simp⟩⟩ (some ad) n c xs rfl (by rw [H.out.1, Nat.mul_one]) H.out.2.2 H.out.2.1 (by simp only [maxLen]; omega) (by omega) (by simp) ?_
         intro v1 w1 hown1 hg1 hat1
         simp only [Nat.zero_add, List.nil_append] at hown1
         have hB1 := hidp (hB.out.grown hg1 hB.out.size (by intro k hk; cases hk; exact Nat.le_refl _))
         obtain ⟨a1, c1, hv1⟩ := ownsRow_slice hown1
         have O1 := hidp hown1
         subst hv1
         clear hown1 hg1 hat1))
    go_ret
    refine ⟨a1, c1, rfl, ⟨H.out.1, H.out.2.1, fun hp => ?_⟩, fun ad had => ?_, hB1.out⟩
    rotate_left
    · subst had
      exact (ownsRow_block O1.out ad.block rfl).1
    obtain ⟨hl, ⟨hv, h0⟩ | ⟨g, cap, cur, hv, hg, hh, r⟩⟩ := O1.out
    · omega
    · cases hv
      exact ⟨_, rfl, fun j u hu => World.ownsRow.cells (g := g) O1.out rfl j u hu⟩

theorem step_append_own {P : Program} {ops : Array Oper} {o : Oper} {a : Act} {w : World} {K : Act → World → Prop} {Q : Exit → Act → World → Prop} {E : Prop} (hgd : o.guard = none) (s x : Operand) (t : TypeId)
    (ho : o.op = .call { callee := .builtin .append, args := #[s, x], argTypes := #[t, t] })
    (base : Nat) (e : TypeId) (i : TypeInfo) (z : Value) (size bytes : Nat) (ht : P.underlying t = some (.slice e)) (hi : P.info? e = some i) (hz : i.zero = some z)
    (hsize : i.size = size) (hby : i.bytes = bytes) (hzs : z.cells.size = size) (hsz : 0 < size)
    (v : Value) (n : Nat) (xs : List Value) (hs : a.eval s = v) (hown : w.ownsRow base e size v n xs)
    (ad : Addr) (m c : Nat) (news : List Value) (hx : a.eval x = .slice (some ad) m c) (hl : news.length = m * size) (hnews : ∀ j u, news[j]? = some u → w.cell? (ad.add j) = some u) (h1 : ∀ u ∈ news, u.oneCell' = true)
    (h63 : n + m ≤ maxLen) (hbytes : (n + m) * bytes ≤ 140737488355328) (hbase : base ≤ w.heap.size)
    (h : ∀ v' w', w'.ownsRow base e size v' (n + m) (xs ++ news) → w.grownBy w' v.ownBlock → (v'.ownBlock = v.ownBlock ∨ v'.ownBlock = some w.heap.size) → K (a.put o.dst v') w') :
    if Region.wanted o (yielded ops a.tmps) = true then Oper.wp P o a w K Q else E := by
  have hw : Region.wanted o (yielded ops a.tmps) = true := by simp [Region.wanted, hgd]
  rw [if_pos hw]
  obtain ⟨v', w', hr, h2, h3, h4, h5⟩ := run_append_own_at (P := P) w base t o.type e i z size bytes ht hi hz hsize hby hzs hsz v n xs hown ad m c news hl hnews h1 h63 hbytes hbase
  unfold Oper.wp execOp
  simp only [ho, resolve, invoke, builtin, Sem.run_bind, Sem.run_pure, Result.andThen_ok, List.map_toArray, List.map_cons, List.map_nil, hs, hx, hr]
  exact h v' w' h2 h3 h5
theorem add_block (a : Addr) (n : Nat) : (a.add n).block = a.block := by unfold Addr.add; split <;> rfl
theorem Frame1.then {b : Nat} {w w1 w2 : World} (F : Frame1 b w w1) (hB : Below w.heap.size w1 w2) : Frame1 b w w2 :=
  ⟨hB.os.trans F.os, hB.tape.trans F.tape, hB.output.trans F.output, Nat.le_trans F.size hB.size, fun k hk hb => (hB.block k hk).trans (F.block k hk hb)⟩
theorem cell_same {w w' : World} {a : Addr} (h : w'.heap[a.block]? = w.heap[a.block]?) : w'.cell? a = w.cell? a := by
  unfold World.cell?
  rw [h]
theorem SrcV.of_heap {w w' : World} {a : Option Addr} {n : Nat} {xs : List Value} (h : SrcV w a n xs) (hk : ∀ ad, a = some ad → 0 < n → ad.block < w.heap.size → w'.heap[ad.block]? = w.heap[ad.block]?) : SrcV w' a n xs :=
  ⟨h.1, h.2.1, fun hp => by
    obtain ⟨ad, h1, h2⟩ := h.2.2 hp
    refine ⟨ad, h1, fun j u hu => ?_⟩
    have := cell_same (w := w) (w' := w') (a := ad.add j) (by rw [add_block]; exact hk ad h1 hp (by have := World.block_lt_of_cell? w _ (h2 j u hu); rwa [add_block] at this))
    rw [this]
    exact h2 j u hu⟩
theorem TabIs.far {w : World} {base b q : Nat} {v : Value} {L : List Cur} {most life next : Int} (h : TabIs w base b v L most life next) (hqb : q ≠ b) (hqv : ∀ g, v.ownBlock = some g → g ≠ q) (o : Nat) (u : Value) : TabIs (w.setCell ⟨q, o, none⟩ u) base b v L most life next :=
  ⟨by rw [Below.heap_setCell _ _ _ _ (by simpa using hqb.symm)]; exact h.blk, ownsRow_of_heap h.own fun g hg => Below.heap_setCell _ _ _ _ (hqv g hg), h.hb⟩
theorem open_nil (c : Cur) (w : World) : Calls Try.prog 8 #[.pointer none, c.val] w fun e w' => e = .returned (.tuple #[.int .i64 0, .slice none 0 0]) ∧ Below w.heap.size w w' := by
  unfold Cur.val
  have hlen : c.cells.length = 16 := rfl
  go_enter Try.func8, Try.ntmps8
  go_wp2
  go_returns
  exact ⟨rfl, by go_grown⟩

/-- what a call on a table leaves as it was: all but the table's own block and the row v -/
structure FrameV (b : Nat) (v : Value) (w w' : World) : Prop where
  os : w'.os = w.os
  tape : w'.tape = w.tape
  output : w'.output = w.output
  size : w.heap.size ≤ w'.heap.size
  block : ∀ k, k < w.heap.size → k ≠ b → v.ownBlock ≠ some k → w'.heap[k]? = w.heap[k]?
theorem TabIs.grow {wc w5 : World} {base b : Nat} {v v5 : Value} {L : List Cur} {most life next : Int} (T : TabIs wc base b v L most life next) (c' : Cur)
    (ho : w5.ownsRow base 34 16 v5 (L.length + 1) (L.flatMap Cur.cells ++ c'.cells)) (hg : (wc.drew.alloc (.cells c'.cells.toArray 34)).grownBy w5 v.ownBlock) (hs : v5.ownBlock = v.ownBlock ∨ v5.ownBlock = some (wc.drew.alloc (.cells c'.cells.toArray 34)).heap.size) :
    w5.heap[b]? = some (.cells #[.int .i64 most, .int .i64 life, .int .i64 next, v] 66 (0, 0)) ∧ TabIs (w5.setCell ⟨b, 3, none⟩ v5) base b v5 (L ++ [c']) most life next ∧ FrameV b v wc (w5.setCell ⟨b, 3, none⟩ v5) := by
  have hlt := ltOf T.blk
  have hs : ∀ g, v5.ownBlock = some g → g ≠ b := by
    rintro g hg rfl
    rcases hs with e | e
    · exact T.ne g (e ▸ hg) rfl
    · rw [e] at hg
      have := Option.some.inj hg
      have h2 : wc.heap.size < (wc.drew.alloc (.cells c'.cells.toArray 34)).heap.size := by simp
      omega
  have hb5 : w5.heap[b]? = some (.cells #[.int .i64 most, .int .i64 life, .int .i64 next, v] 66 (0, 0)) := by
    rw [hg.block b (by simp; omega) (fun e => T.ne b e.symm rfl), heap_alloc_old _ _ (show b < wc.drew.heap.size from hlt)]
    exact T.blk
  refine ⟨hb5, ⟨by simpa using heap_setCell_same hb5 3 v5, ?_, T.hb⟩, ⟨hg.os, hg.tape, hg.output, ?_, fun k hk hkb hkv => ?_⟩⟩
  · unfold OutC
    refine ownsRow_of_heap (w := w5) ?_ fun g hgo => Below.heap_setCell _ _ _ _ (hs g hgo)
    rw [List.length_append, List.flatMap_append]
    simpa using ho
  · have := hg.size
    simp [World.setCell] at this ⊢
    omega
  · rw [Below.heap_setCell _ _ _ _ (by simpa using hkb), hg.block k (by simp; omega) (fun e => hkv e.symm), heap_alloc_old _ _ (show k < wc.drew.heap.size from hk)]
    rfl
theorem FrameV.after {b : Nat} {v : Value} {x y z : World} (F : Frame1 b x y) (G : FrameV b v y z) : FrameV b v x z :=
  ⟨G.os.trans F.os, G.tape.trans F.tape, G.output.trans F.output, Nat.le_trans F.size G.size, fun k hk h1 h2 => (G.block k (Nat.lt_of_lt_of_le hk F.size) h1 h2).trans (F.block k hk h1)⟩
theorem FrameV.then {b : Nat} {v : Value} {x y z : World} (F : FrameV b v x y) (G : Frame1 b y z) : FrameV b v x z :=
  ⟨G.os.trans F.os, G.tape.trans F.tape, G.output.trans F.output, Nat.le_trans F.size G.size, fun k hk h1 h2 => (G.block k (Nat.lt_of_lt_of_le hk F.size) h1).trans (F.block k hk h1 h2)⟩
def firstId : List Cur → Int
  | [] => 0
  | x :: _ => x.id
/-- what is laid into the table: c with a number, no age, and a copy of its list -/
def Cur.fresh (c : Cur) (n : Int) (a : Option Addr) (cc : Nat) : Cur := { c with id := n, age := 0, ca := a, cc := cc }
theorem fresh_cells (c : Cur) (n : Int) (a : Option Addr) (cc : Nat) : (((c.cells.toArray.setIfInBounds 0 (.int .i64 n)).setIfInBounds 15 (.int .i64 0)).setIfInBounds 10 (.slice a c.cl cc)) = (c.fresh n a cc).cells.toArray := rfl

set_option maxHeartbeats 4000000 in
theorem open_any (base b : Nat) (v : Value) (L : List Cur) (most life next : Int) (c : Cur) (xs : List Value) (w : World) (h : TabIs w base b v L most life next) (hn : L.length ≤ 100) (hx : 0 ≤ next ∧ next ≤ 1000000)
    (hS : SrcV w c.ca c.cl xs) (hcl : c.cl ≤ 1000) (hca : c.ca = none → c.cl = 0 ∧ c.cc = 0) (hcb : ∀ ad, c.ca = some ad → 0 < c.cl → ad.block ≠ b) :
    Calls Try.prog 8 #[.pointer (some ⟨b, 0, none⟩), c.val] w fun e w' => ∃ (a' : Option Addr) (cc' : Nat) (o : Value), e = .returned (.tuple #[.int .i64 (next + 1), o]) ∧
      (((L.length : Int) + 1 ≤ most ∧ o = .slice none 0 0 ∧ ∃ v', TabIs w' base b v' (L ++ [c.fresh (next + 1) a' cc']) most life (next + 1)) ∨
       (most < (L.length : Int) + 1 ∧ OutC w' w.heap.size o ((L ++ [c.fresh (next + 1) a' cc']).filter (fun x => x.id == firstId (L ++ [c.fresh (next + 1) a' cc']))) ∧
         ∃ v', TabIs w' base b v' ((L ++ [c.fresh (next + 1) a' cc']).filter (fun x => !(x.id == firstId (L ++ [c.fresh (next + 1) a' cc'])))) most life (next + 1))) ∧
      SrcV w' a' c.cl xs ∧ FrameV b v w w' := by
  have H := hidp h
  have HS := hidp hS
  obtain ⟨a, cap, rfl, hR⟩ := h.own.row
  obtain ⟨-, -, -, -, -, -⟩ := h.cells (Below.refl _ _)
  have hbq : b < w.heap.size := ltOf h.blk
  have hlen : c.cells.length = 16 := rfl
  obtain ⟨-, -, c2, -, f2, -⟩ := h.cells ((Below.refl w.heap.size w).alloc (Nat.le_refl _) (.cells c.cells.toArray 34))
  have hwr : IntKind.i64.wrap (next + 1) = next + 1 := IntWalk.i64_in _ (by omega)
  unfold Cur.val
  clear h hS hR
  go_enter Try.func8, Try.ntmps8
  go_upto_region 4 with (fail)
  have hszA : (w.setCell ⟨b, 2, none⟩ (.int .i64 (next + 1))).heap.size = w.heap.size := by simp [World.setCell]
  have hq1 : ((w.setCell ⟨b, 2, none⟩ (.int .i64 (next + 1))).alloc (.cells c.cells.toArray 34)).heap[w.heap.size]? = some (.cells c.cells.toArray 34 (0, 0)) := by
    have := heap_alloc_new (w.setCell ⟨b, 2, none⟩ (.int .i64 (next + 1))) (.cells c.cells.toArray 34)
    rwa [hszA] at this
  have TA : TabIs (w.setCell ⟨b, 2, none⟩ (.int .i64 (next + 1))) base b (.slice a L.length cap) L most life (next + 1) := by
    refine ⟨by simpa using heap_setCell_same H.out.blk 2 (.int .i64 (next + 1)), ownsRow_of_heap H.out.own fun g hg => ?_, H.out.hb⟩
    exact Below.heap_setCell _ _ _ _ (H.out.ne g hg)
  have BA := (Below.refl (w.setCell ⟨b, 2, none⟩ (.int .i64 (next + 1))).heap.size (w.setCell ⟨b, 2, none⟩ (.int .i64 (next + 1)))).alloc (Nat.le_refl _) (.cells c.cells.toArray 34)
  have T1 := TA.below BA (Nat.le_refl _)
  have F1 : Frame1 b w ((w.setCell ⟨b, 2, none⟩ (.int .i64 (next + 1))).alloc (.cells c.cells.toArray 34)) := (Frame1.setCell w 2 _).trans (Frame1.of_below BA)
  clear TA BA hszA
  generalize (w.setCell ⟨b, 2, none⟩ (.int .i64 (next + 1))).alloc (.cells c.cells.toArray 34) = w1 at *
  have hqlt := ltOf hq1
  have fin : ∀ (w2 : World) (a' : Option Addr) (cc' : Nat), Below w1.heap.size w1 w2 → SrcV w2 a' c.cl xs → (∀ ad, a' = some ad → w1.heap.size ≤ ad.block) →
      Hid ((((w2.setCell ⟨w.heap.size, 0, none⟩ (.int .i64 (next + 1))).setCell ⟨w.heap.size, 15, none⟩ (.int .i64 0)).setCell ⟨w.heap.size, 10, none⟩ (.slice a' c.cl cc')).heap[w.heap.size]? = some (.cells (c.fresh (next + 1) a' cc').cells.toArray 34 (0, 0)) ∧
        TabIs (((w2.setCell ⟨w.heap.size, 0, none⟩ (.int .i64 (next + 1))).setCell ⟨w.heap.size, 15, none⟩ (.int .i64 0)).setCell ⟨w.heap.size, 10, none⟩ (.slice a' c.cl cc')) base b (.slice a L.length cap) L most life (next + 1) ∧
        SrcV (((w2.setCell ⟨w.heap.size, 0, none⟩ (.int .i64 (next + 1))).setCell ⟨w.heap.size, 15, none⟩ (.int .i64 0)).setCell ⟨w.heap.size, 10, none⟩ (.slice a' c.cl cc')) a' c.cl xs ∧
        Frame1 b w (((w2.setCell ⟨w.heap.size, 0, none⟩ (.int .i64 (next + 1))).setCell ⟨w.heap.size, 15, none⟩ (.int .i64 0)).setCell ⟨w.heap.size, 10, none⟩ (.slice a' c.cl cc'))) := by
    intro w2 a' cc' hB hS hN
    have hq2 := heap_below hB hq1 hqlt
    have s1 := heap_setCell_same hq2 0 (.int .i64 (next + 1))
    have s2 := heap_setCell_same s1 15 (.int .i64 0)
    have s3 := heap_setCell_same s2 10 (.slice a' c.cl cc')
    rw [fresh_cells] at s3
    have T2 := T1.below hB (Nat.le_refl _)
    have hvq : ∀ g, (Value.slice a L.length cap).ownBlock = some g → g ≠ w.heap.size := by
      intro g hg e
      obtain ⟨_, cc, hcc⟩ := ownsRow_block H.out.own g hg
      have := ltOf hcc; omega
    have hne : w.heap.size ≠ b := by omega
    refine ⟨s3, ((T2.far hne hvq 0 _).far hne hvq 15 _).far hne hvq 10 _, hS.of_heap fun ad had _ _ => ?_, F1.then ((((hB.mono (Nat.le_of_lt hqlt)).setCell (Nat.le_refl _) _).setCell (Nat.le_refl _) _).setCell (Nat.le_refl _) _)⟩
    · have := hN ad had
      rw [Below.heap_setCell _ _ _ _ (by simp; omega), Below.heap_setCell _ _ _ _ (by simp; omega), Below.heap_setCell _ _ _ _ (by simp; omega)]
  have FIN := hidp fin
  have HT := hidp T1
  have HQ := hidp hq1
  have HF := hidp F1
  have HS1 : Hid (SrcV w1 c.ca c.cl xs) := HS.out.of_heap fun ad had hp hlt => F1.block _ hlt (hcb ad had hp)
  obtain ⟨-, -, d2, -, -, -⟩ := T1.cells (Below.refl _ _)
  obtain ⟨-, -, d2d, -, -, -⟩ := T1.cells (Below.refl _ _).drew
  have d10 : w1.cell? ⟨w.heap.size, 10, none⟩ = some (.slice c.ca c.cl c.cc) := cellOf hq1 10 rfl
  have d10d : w1.drew.cell? ⟨w.heap.size, 10, none⟩ = some (.slice c.ca c.cl c.cc) := cellOf hq1 10 rfl
  have g0 : w1.cell? ⟨w.heap.size, 0, none⟩ = some (.int .i64 c.id) := cellOf hq1 0 rfl
  have g15 : w1.cell? ⟨w.heap.size, 15, none⟩ = some (.int .i64 c.age) := cellOf hq1 15 rfl
  have z0 := frozenOf hq1 0
  have z10 := frozenOf hq1 10
  have z15 := frozenOf hq1 15
  clear hq1 T1 F1 fin c2 f2
  go_cut [] (fun wx => ∃ a' cc', wx.heap[w.heap.size]? = some (.cells (c.fresh (next + 1) a' cc').cells.toArray 34 (0, 0)) ∧ TabIs wx base b (.slice a L.length cap) L most life (next + 1) ∧ SrcV wx a' c.cl xs ∧ (∀ ad, a' = some ad → w.heap.size < ad.block) ∧ Frame1 b w wx)
  case first =>
    go_region_with
      (first
      | (go_at_call 27
         refine (clone_any _ _ _ xs _ (HS1.out.below (Below.refl _ _).drew) hcl hca).mono ?_
         rintro e w2 ⟨a', cc', rfl, S2, N2, B2⟩
         have FF := FIN.out w2 a' cc' ((Below.refl _ _).drew.trans B2) S2 N2
         obtain ⟨-, -, e2, -, -, -⟩ := HT.out.cells ((Below.refl _ _).drew.trans B2)
         have hq2 := heap_below ((Below.refl _ _).drew.trans B2) HQ.out hqlt
         have k0 : w2.cell? ⟨w.heap.size, 0, none⟩ = some (.int .i64 c.id) := cellOf hq2 0 rfl
         have k15 : w2.cell? ⟨w.heap.size, 15, none⟩ = some (.int .i64 c.age) := cellOf hq2 15 rfl
         have k10 : w2.cell? ⟨w.heap.size, 10, none⟩ = some (.slice c.ca c.cl c.cc) := cellOf hq2 10 rfl
         have y0 := frozenOf hq2 0
         have y10 := frozenOf hq2 10
         have y15 := frozenOf hq2 15
         have N3 : ∀ ad, a' = some ad → w.heap.size < ad.block := fun ad had => Nat.lt_of_lt_of_le hqlt (N2 ad had)
         clear S2 B2 N2 hq2))
    all_goals (go_wp2_with fail)
    all_goals go_meet
    all_goals exact ⟨_, _, FF.out.1, FF.out.2.1, FF.out.2.2.1, N3, FF.out.2.2.2⟩
  case rest =>
    obtain ⟨a', cc', hQ, T, S, hN5, F⟩ := hcut
    obtain ⟨w4, rfl⟩ : ∃ w4, w4 = wc := ⟨_, rfl⟩
    obtain ⟨c', hc'⟩ : ∃ c', c' = c.fresh (next + 1) a' cc' := ⟨_, rfl⟩
    rw [← hc'] at hQ
    obtain ⟨-, -, -, e3, -, f3⟩ := T.cells (Below.refl _ _)
    have q0 : w4.cell? ⟨w.heap.size, 0, none⟩ = some (.int .i64 c'.id) := cellOf hQ 0 rfl
    have q1 : w4.cell? ⟨w.heap.size, 1, none⟩ = some (.int .i64 c'.owner) := cellOf hQ 1 rfl
    have q2 : w4.cell? ⟨w.heap.size, 2, none⟩ = some (.int .i64 c'.ver) := cellOf hQ 2 rfl
    have q3 : w4.cell? ⟨w.heap.size, 3, none⟩ = some (.int .i64 c'.kind) := cellOf hQ 3 rfl
    have q4 : w4.cell? ⟨w.heap.size, 4, none⟩ = some (.int .i64 c'.mode) := cellOf hQ 4 rfl
    have q5 : w4.cell? ⟨w.heap.size, 5, none⟩ = some (.int .u32 c'.pa) := cellOf hQ 5 rfl
    have q6 : w4.cell? ⟨w.heap.size, 6, none⟩ = some (.int .i64 c'.pl) := cellOf hQ 6 rfl
    have q7 : w4.cell? ⟨w.heap.size, 7, none⟩ = some (.int .i64 c'.tab) := cellOf hQ 7 rfl
    have q8 : w4.cell? ⟨w.heap.size, 8, none⟩ = some (.int .i64 c'.peer) := cellOf hQ 8 rfl
    have q9 : w4.cell? ⟨w.heap.size, 9, none⟩ = some (.string c'.rx) := cellOf hQ 9 rfl
    have q10 : w4.cell? ⟨w.heap.size, 10, none⟩ = some (.slice c'.ca c'.cl c'.cc) := cellOf hQ 10 rfl
    have q11 : w4.cell? ⟨w.heap.size, 11, none⟩ = some (.int .i64 c'.cur) := cellOf hQ 11 rfl
    have q12 : w4.cell? ⟨w.heap.size, 12, none⟩ = some (.bool c'.out) := cellOf hQ 12 rfl
    have q13 : w4.cell? ⟨w.heap.size, 13, none⟩ = some (.int .u32 c'.aa) := cellOf hQ 13 rfl
    have q14 : w4.cell? ⟨w.heap.size, 14, none⟩ = some (.int .i64 c'.al) := cellOf hQ 14 rfl
    have q15 : w4.cell? ⟨w.heap.size, 15, none⟩ = some (.int .i64 c'.age) := cellOf hQ 15 rfl
    have HO := hidp (ownsRow_below T.own ((Below.refl w4.heap.size w4).drew.alloc (Nat.le_refl _) (.cells c'.cells.toArray 34)) (Nat.le_refl _))
    have hN := news_at w4.drew c'
    have HN := hidp hN
    have hbs : base ≤ w4.heap.size := by have := T.hb; have := ltOf T.blk; omega
    obtain ⟨i0, hi0, hz0, hz1, hz2⟩ := info_parts Try.infos34
    have HT5 := hidp T
    have HF5 := hidp F
    have HQ5 := hidp hQ
    have HS5 := hidp S
    have HN5 := hidp hN5
    have HC' := hidp hc'
    clear hc'
    have e3d : w4.drew.cell? ⟨b, 3, none⟩ = some (.slice a L.length cap) := e3
    have e3e : (w4.alloc (.cells #[.int .i64 c'.id, .int .i64 c'.owner, .int .i64 c'.ver, .int .i64 c'.kind, .int .i64 c'.mode, .int .u32 c'.pa, .int .i64 c'.pl, .int .i64 c'.tab, .int .i64 c'.peer, .string c'.rx, .slice c'.ca c'.cl c'.cc, .int .i64 c'.cur, .bool c'.out, .int .u32 c'.aa, .int .i64 c'.al, .int .i64 c'.age] 34)).drew.cell? ⟨b, 3, none⟩ = some (.slice a L.length cap) := by
      show (w4.alloc _).cell? _ = _
      rw [World.cell?_alloc_past _ _ _ (ltOf T.blk)]
      exact e3
    clear T F hQ S hN hN5 d2 d2d d10 d10d g0 g15 z0 z10 z15 FIN HT HQ HF HS1
    go_upto_region 5 with (fail)
    go_cut [] (fun wx => ∃ v5, TabIs wx base b v5 (L ++ [c']) most life (next + 1) ∧ FrameV b (.slice a L.length cap) w4 wx)
    case first =>
     go_region_law (first
      | (refine step_append_own (w := w4.drew.alloc (.cells c'.cells.toArray 34)) rfl (.tmp 32) (.tmp 34) 24 rfl base 34 i0 zero34 16 152 Try.underlying24 hi0 hz0 hz1 hz2 rfl (by omega) (.slice a L.length cap) _ _ rfl HO.out ⟨w4.heap.size, 0, none⟩ 1 1 c'.cells rfl (by rw [Cur.len]) HN.out c'.one (by simp only [maxLen]; omega) (by omega) (by simp; omega) ?_
         intro v5 w5 hown5 hg5 hat5
         have K5 := hidp (HT5.out.grow c' hown5 hg5 hat5)
         obtain ⟨a5, c5, rfl⟩ := ownsRow_slice hown5
         have e35 := cellOf K5.out.1 3 rfl
         have f35 := frozenOf K5.out.1 3
         clear hown5 hg5 hat5))
     all_goals go_wp2_with fail
     all_goals go_meet
     all_goals exact ⟨_, K5.out.2⟩
    case rest =>
     obtain ⟨v5, T5, F5⟩ := hcut
     have hlen5 : (L ++ [c']).length = L.length + 1 := by simp
     obtain ⟨a5, c5, rfl, hR5⟩ := T5.own.row
     have hvb : ∀ g, (Value.slice a L.length cap).ownBlock = some g → g < w.heap.size := fun g hg => by
       obtain ⟨_, cc, hcc⟩ := ownsRow_block H.out.own g hg
       exact ltOf hcc
     have hq4 := ltOf HQ5.out
     have hq5 : wc.heap[w.heap.size]? = some (.cells c'.cells.toArray 34 (0, 0)) := by
       rw [F5.block _ hq4 (by omega) (fun e => by have := hvb _ e; omega)]
       exact HQ5.out
     have S5 : SrcV wc a' c.cl xs := HS5.out.of_heap fun ad had _ hlt => by
       have h1 := HN5.out ad had
       exact F5.block _ hlt (by omega) (fun e => by have := hvb _ e; omega)
     obtain ⟨m0, m1, -, m3, -, -⟩ := T5.cells (Below.refl _ _)
     have HT6 := hidp T5
     have HR6 := hidp hR5
     have HQ6 := hidp hq5
     have HS6 := hidp S5
     have HF6 := hidp (FrameV.after HF5.out F5)
     clear T5 hR5 hq5 S5 F5 HT5 HS5 HF5 HQ5 HO HN e3 f3 e3d e3e q0 q1 q2 q3 q4 q5 q6 q7 q8 q9 q10 q11 q12 q13 q14 q15
     rw [hlen5] at m3
     go_wp2
     go_quiet (fail)
     have hB6 : Below wc.heap.size wc (wc.drewN nq) := below_drewN (Below.refl _ _) _
     generalize wc.drewN nq = w6 at *
     have p0 : w6.cell? ⟨w.heap.size, 0, none⟩ = some (.int .i64 c'.id) := cellOf (heap_below hB6 HQ6.out (ltOf HQ6.out)) 0 rfl
     have hcid : c'.id = next + 1 := by rw [HC'.out]; rfl
     rw [hcid] at p0
     by_cases hle : (L.length : Int) + 1 ≤ most
     · go_wp2
       go_returns
       refine ⟨a', cc', _, rfl, .inl ⟨hle, rfl, ?_⟩, HS6.out.below hB6, HF6.out.then (Frame1.of_below hB6)⟩
       rw [← HC'.out]
       exact ⟨_, HT6.out.below hB6 (Nat.le_refl _)⟩
     · obtain ⟨g5, o5, hg5, hc5⟩ := HR6.out (by omega)
       subst hg5
       obtain ⟨x, r, hxr⟩ : ∃ x r, L ++ [c'] = x :: r := by
         cases hL : L ++ [c'] with
         | nil => simp at hL
         | cons x r => exact ⟨x, r, rfl⟩
       have hfx : firstId (L ++ [c']) = x.id := by rw [hxr]; rfl
       have hx0 : (L ++ [c'])[0]'(by omega) = x := by simp [hxr]
       have hr0 := hc5 0 (by omega)
       rw [hx0, Nat.zero_mul, Nat.add_zero] at hr0
       have px : w6.cell? ⟨g5, o5, none⟩ = some (.int .i64 x.id) := by
         have := below_cell hB6 (Nat.le_refl _) _ _ (hr0 0 (.int .i64 x.id) rfl)
         rwa [Nat.add_zero] at this
       have HX := hidp (And.intro hfx hxr)
       clear hc5 hx0 hr0 hfx hxr
       have hT7 := hidp (HT6.out.below hB6 (Nat.le_refl _))
       have hQ7 := hidp (heap_below hB6 HQ6.out (ltOf HQ6.out))
       have l0 : ¬ ((L.length : Int) + 1 ≤ 0) := by omega
       obtain ⟨-, -, -, n3, -, -⟩ := HT6.out.cells hB6
       rw [hlen5] at n3
       go_upto_region 9 with (fail)
       have hmf : ∀ (fn : Fn) (first cap : Array Value) (w : World), (Instr.makeFunc fn first cap).run Try.prog w = .ok (.func fn first cap) w := fun _ _ _ _ => rfl
       have e29 : Hid (∀ args w, (callFunc 29 args).run Try.prog w = .ok (.enter 29 args) w) := fun args w => enters_fn Try.func29 (by kernel_rfl) rfl args w
       have hB7 : Below w6.heap.size w6 (w6.alloc (.cells #[.int .i64 x.id] 3)) := (Below.refl _ _).alloc (Nat.le_refl _) _
       have k7 : (w6.alloc (.cells #[.int .i64 x.id] 3)).cell? ⟨w6.heap.size, 0, none⟩ = some (.int .i64 x.id) := cellOf (heap_alloc_new _ _) 0 rfl
       have HT8 := hidp (hT7.out.below hB7 (Nat.le_refl _))
       have hq8 := heap_below hB7 hQ7.out (ltOf hQ7.out)
       generalize w6.alloc (.cells #[.int .i64 x.id] 3) = w8 at *
       have K8 := hidp k7
       have HB8 := hidp (hB6.trans (hB7.mono hB6.size))
       have hsz8 := hB7.size
       have hq8d : w8.drew.cell? ⟨w.heap.size, 0, none⟩ = some (.int .i64 (next + 1)) := by
         have := cellOf hq8 0 (v := .int .i64 c'.id) rfl
         rw [hcid] at this
         exact this
       have HQ8 := hidp hq8
       have HCI := hidp hcid
       clear hB7 k7 hB6 px p0 n3 m0 m1 m3 hq8 hcid
       go_region_held (fun W => W.cell? ⟨w.heap.size, 0, none⟩ = some (.int .i64 (next + 1))) (first | assumption | exact hq8d)
         (first
           | (go_at_call 28
              refine (gone_any base b (.slice (some ⟨g5, o5, none⟩) (L ++ [c']).length c5) (L ++ [c']) most life (next + 1) 29 #[.pointer (some ⟨w6.heap.size, 0, none⟩)] (fun y => y.id == x.id) w8.drew (HT8.out.below (Below.refl _ _).drew (Nat.le_refl _)) (by rw [hlen5]; omega) e29.out (fun y W hW => ?_)).mono ?_
              · exact cl29 y w6.heap.size x.id W (below_cell hW (Nat.le_refl _) _ _ K8.out)
              rintro e w9 ⟨o9, rfl, hO9, hT9, hF9⟩
              have hq9 : w9.cell? ⟨w.heap.size, 0, none⟩ = some (.int .i64 (next + 1)) := by
                have := cellOf (w := w9) (by rw [hF9.block _ (ltOf HQ8.out) (by omega)]; exact HQ8.out) 0 (v := .int .i64 c'.id) rfl
                rw [HCI.out] at this
                exact this
              have K9 := hidp (And.intro hO9 (And.intro hT9 hF9))
              clear hO9 hT9 hF9))
       all_goals go_wp2
       all_goals go_returns
       all_goals
        obtain ⟨hO9, hT9, hF9⟩ := K9.out
        have hs9 : w.heap.size ≤ w8.drew.heap.size := Nat.le_trans HF6.out.size HB8.out.size
        refine ⟨a', cc', _, rfl, .inr ⟨by omega, ?_, ?_⟩, ?_, ?_⟩
        · rw [← HC'.out, HX.out.1]
          exact ownsRow_weaken hO9 hs9
        · rw [← HC'.out, HX.out.1]
          exact hT9
        · refine (HS6.out.below (HB8.out.trans (Below.refl _ _).drew)).of_heap fun ad had _ hlt => hF9.block _ hlt ?_
          have := HN5.out ad had
          omega
        · exact (HF6.out.then (Frame1.of_below HB8.out)).then ((Frame1.of_below (Below.refl _ _).drew).trans hF9)
end Go.Proofs.Ytkmhdffkganhaaa
