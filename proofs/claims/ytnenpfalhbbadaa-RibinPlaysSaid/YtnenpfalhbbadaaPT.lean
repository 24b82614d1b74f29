/- Trees of prefixes: what they are; that two prefixes are told apart; find. -/
import Derived.Test.YtnenpfalhbbadaaPB2
import Derived.Test.YtnenpfalhbbadaaFlowL
import Derived.Deep.LoopGhost
import Derived.Deep.MidRow
namespace Go.Proofs.Ytnenpfalhbbadaa
open Go.RowKit

theorem eq44 (x y x' y' : Int) (w : World) : (Op.equalIn 10000 44 (.agg #[.int .u32 x, .int .i64 y]) (.agg #[.int .u32 x', .int .i64 y'])).run Try.prog w = .ok (x == x' && y == y') w := by
  have u3 := Try.underlying3
  have a3 := Try.isAgg3
  have z3 := Try.sizeOf3
  have u33 := Try.underlying33
  have a33 := Try.isAgg33
  have z33 := Try.sizeOf33
  rw [show (10000 : Nat) = 9999 + 1 from rfl, Op.equalIn]
  simp only [Sem.run_bind, run_underlying Try.underlying44, Result.andThen_ok]
  go_simp
  by_cases h1 : x = x'
  · by_cases h2 : y = y' <;> simp [h1, h2]
  · by_cases h2 : y = y' <;> simp [h1, h2]
def samePf (p q : Pf) : Bool := (p.a : Int) == (q.a : Int) && p.l == q.l
theorem samePf_eq {p q : Pf} (h : samePf p q = true) : p = q := by
  unfold samePf at h
  simp at h
  obtain ⟨h1, h2⟩ := h
  cases p; cases q
  simp at h1 h2
  subst h2
  obtain rfl := Int.ofNat_inj.1 h1
  rfl
theorem samePf_refl (p : Pf) : samePf p p = true := by simp [samePf]

/-- a segment of a path, and the numbers in it -/
structure Sg where
  kind : Int
  a : Option Addr
  n : Nat
  c : Nat
  nums : List Int
/-- an attribute that is not known, and its bytes -/
structure Rw where
  flags : Int
  type : Int
  a : Option Addr
  n : Nat
  c : Nat
  bytes : List Int
/-- attributes, and what their lists hold -/
structure Att where
  origin : Int
  pa : Option Addr
  pl : Nat
  pc : Nat
  next : Int
  med : Int
  pref : Int
  atomic : Bool
  hasAggr : Bool
  aas : Int
  aad : Int
  ca : Option Addr
  cl : Nat
  cc : Nat
  ra : Option Addr
  rl : Nat
  rc : Nat
  segs : List Sg
  comms : List Int
  raws : List Rw
def Att.cells (a : Att) : List Value := [.int .i64 a.origin, .slice a.pa a.pl a.pc, .int .u32 a.next, .int .i64 a.med, .int .i64 a.pref, .bool a.atomic, .bool a.hasAggr, .int .u32 a.aas, .int .u32 a.aad, .slice a.ca a.cl a.cc, .slice a.ra a.rl a.rc]
def Att.val (a : Att) : Value := .agg a.cells.toArray
theorem Att.len (a : Att) : a.cells.length = 11 := rfl
theorem Att.all_one (a : Att) : a.cells.toArray.all (·.oneCell') = true := by simp [Att.cells, Value.oneCell']
def att0 : Att := ⟨0, none, 0, 0, 0, 0, 0, false, false, 0, 0, none, 0, 0, none, 0, 0, [], [], []⟩
theorem Try.info37 : (Try.prog.info? 37).map (·.size) = some 11 := by kernel_rfl
theorem Try.info44 : (Try.prog.info? 44).map (·.size) = some 2 := by kernel_rfl
theorem Try.info93 : (Try.prog.info? 93).map (·.size) = some 16 := by kernel_rfl
def Sg.cells (s : Sg) : List Value := [.int .i64 s.kind, .slice s.a s.n s.c]
def Rw.cells (r : Rw) : List Value := [.int .i64 r.flags, .int .i64 r.type, .slice r.a r.n r.c]
/-- a slice's values lie in the world -/
def RowV (w : World) (a : Option Addr) (n size : Nat) (xs : List Value) : Prop := xs.length = n * size ∧ (0 < n → ∃ g o, a = some ⟨g, o, none⟩ ∧ w.rangeAt g o xs)
theorem RowV.below {w w' : World} {a : Option Addr} {n size : Nat} {xs : List Value} (h : RowV w a n size xs) (hB : Below w.heap.size w w') : RowV w' a n size xs :=
  ⟨h.1, fun hp => by obtain ⟨g, o, e, h2⟩ := h.2 hp; exact ⟨g, o, e, fun j v hv => below_cell hB (Nat.le_refl _) _ _ (h2 j v hv)⟩⟩
structure Att.at (w : World) (a : Att) : Prop where
  path : RowV w a.pa a.pl 2 (a.segs.flatMap Sg.cells) ∧ a.segs.length = a.pl
  nums : ∀ s ∈ a.segs, RowV w s.a s.n 1 (s.nums.map (Value.int .u32))
  comms : RowV w a.ca a.cl 1 (a.comms.map (Value.int .u32))
  raws : RowV w a.ra a.rl 3 (a.raws.flatMap Rw.cells) ∧ a.raws.length = a.rl
  bytes : ∀ r ∈ a.raws, RowV w r.a r.n 1 (r.bytes.map (Value.int .u8))
  slens : ∀ s ∈ a.segs, s.n ≤ 9223372036854775807
  rlens : ∀ r ∈ a.raws, r.n ≤ 9223372036854775807
  lens : a.pl ≤ 9223372036854775807 ∧ a.cl ≤ 9223372036854775807 ∧ a.rl ≤ 9223372036854775807
  brange : ∀ r ∈ a.raws, ∀ x ∈ r.bytes, 0 ≤ x ∧ x ≤ 255
theorem Att.at.below {w w' : World} {a : Att} (h : a.at w) (hB : Below w.heap.size w w') : a.at w' :=
  ⟨⟨h.path.1.below hB, h.path.2⟩, fun s hs => (h.nums s hs).below hB, h.comms.below hB, ⟨h.raws.1.below hB, h.raws.2⟩, fun r hr => (h.bytes r hr).below hB, h.slens, h.rlens, h.lens, h.brange⟩
theorem RowV.nil (w : World) (size : Nat) : RowV w none 0 size [] := ⟨by simp, fun h => absurd h (by omega)⟩
theorem att0_at (w : World) : att0.at w := ⟨⟨RowV.nil w 2, rfl⟩, fun _ h => (by cases h), RowV.nil w 1, ⟨RowV.nil w 3, rfl⟩, fun _ h => (by cases h), fun _ h => (by cases h), fun _ h => (by cases h), by decide, fun _ h => (by cases h)⟩

/-- trees -/
inductive Tr where
  | nil
  | node (b : Nat) (p : Pf) (has : Bool) (v : Att) (l r : Tr)
def Tr.ptr : Tr → Value
  | .nil => .pointer none
  | .node b _ _ _ _ _ => .pointer (some ⟨b, 0, none⟩)
def nodeC (p : Pf) (has : Bool) (v : Att) (vl vr : Value) : List Value := [.int .u32 (p.a : Int), .int .i64 p.l, .bool has] ++ (v.cells ++ [vl, vr])
theorem nodeC_len (p : Pf) (has : Bool) (v : Att) (vl vr : Value) : (nodeC p has v vl vr).length = 16 := rfl
/-- the tree's nodes lie in w; what is said at them is said in the world that came in -/
def Tr.at (wA w : World) : Tr → Prop
  | .nil => True
  | .node b p h v l r => w.heap[b]? = some (.cells (nodeC p h v l.ptr r.ptr).toArray 93 (0, 0)) ∧ p.ok ∧ v.at wA ∧ Tr.at wA w l ∧ Tr.at wA w r
theorem Tr.at.below {wA w w' : World} (hB : Below w.heap.size w w') : ∀ {t : Tr}, t.at wA w → t.at wA w'
  | .nil, _ => trivial
  | .node _ _ _ _ _ _, h => by
    obtain ⟨hb, hp, hv, hl, hr⟩ := h
    exact ⟨heap_below hB hb (ltOf hb), hp, hv, hl.below hB, hr.below hB⟩
def Tr.size : Tr → Nat
  | .nil => 0
  | .node _ _ _ _ l r => l.size + r.size + 1
def findT : Tr → Pf → Tr
  | .nil, _ => .nil
  | .node b q h v l r, p => if samePf q p = true then .node b q h v l r else if coversF q p = true then (if sideF q p = 0 then findT l p else findT r p) else .nil
theorem findT_at {wA w : World} (p : Pf) : ∀ {t : Tr}, t.at wA w → (findT t p).at wA w
  | .nil, _ => trivial
  | .node _ q _ _ _ _, h => by
    unfold findT
    split
    · exact h
    · split
      · split
        · exact findT_at p h.2.2.2.1
        · exact findT_at p h.2.2.2.2
      · trivial
theorem ret_of {x y : Value} (h : x = y) : Ending.returned x = .returned y := by rw [h]

set_option maxRecDepth 100000 in
set_option maxHeartbeats 4000000 in
theorem find_any (wA : World) (t : Tr) (p : Pf) (hp : p.ok) (w : World) (h : t.at wA w) : Calls Try.prog 49 #[t.ptr, p.val] w fun e w' => e = .returned (findT t p).ptr ∧ Below w.heap.size w w' := by
  have hB := (Below.refl w.heap.size w).alloc (Nat.le_refl _) (.cells #[.int .u32 (p.a : Int), .int .i64 p.l] 44)
  have k0 := heap_alloc_new w (.cells #[.int .u32 (p.a : Int), .int .i64 p.l] 44)
  have H := hidp (h.below hB)
  have HB := hidp hB
  have K0 := hidp k0
  have heq := eq44
  have HEQ := hidp heq
  clear hB k0 h heq
  have hpv : p.val = .agg #[.int .u32 (p.a : Int), .int .i64 p.l] := rfl
  rw [hpv]
  go_enter Try.func49, Try.ntmps49
  go_wp2
  change Code.wp Try.prog _ _ _ (w.alloc (.cells #[.int .u32 (p.a : Int), .int .i64 p.l] 44))
  generalize w.alloc (.cells #[.int .u32 (p.a : Int), .int .i64 p.l] 44) = w0 at *
  go_loopg [0] t.size (fun k x wr => ∃ s : Tr, s.size ≤ k ∧ x = s.ptr ∧ s.at wA wr ∧ findT s p = findT t p ∧ Below w0.heap.size w0 wr)
  case atStart => exact ⟨t, Nat.le_refl _, rfl, H.out, rfl, Below.refl _ _⟩
  case round =>
    obtain ⟨s, hsz, hx, hat, hft, hB⟩ := hrel
    obtain ⟨w1, rfl⟩ : ∃ w1, w1 = wr := ⟨_, rfl⟩
    have HB1 := hidp (HB.out.trans (hB.mono HB.out.size))
    have HB0 := hidp hB
    have HFT := hidp hft
    have kb := heap_below hB K0.out (ltOf K0.out)
    cases s with
    | nil =>
      have hx' : u0 = .pointer none := hx
      subst hx'
      clear hx
      clear hat hft hB kb hsz
      go_upto_region 1 with (fail)
      go_quiet (fail)
      go_wp2
      go_ret
      exact ⟨ret_of (by rw [← HFT.out]; rfl), below_drewN HB1.out _⟩
    | node b q hs vv l r =>
      obtain ⟨hb, hq, hv, hl, hr⟩ := hat
      have hx' : u0 = .pointer (some ⟨b, 0, none⟩) := hx
      subst hx'
      clear hx
      obtain ⟨vl, hvl⟩ : ∃ vl, vl = l.ptr := ⟨_, rfl⟩
      obtain ⟨vr, hvr⟩ : ∃ vr, vr = r.ptr := ⟨_, rfl⟩
      rw [← hvl, ← hvr] at hb
      have HVP := hidp (And.intro hvl hvr)
      clear hvl hvr
      have HSZ := hidp hsz
      have HK := hidp (And.intro hl hr)
      have HQP := hidp (And.intro hq hp)
      have HV := hidp hv
      have HBK := hidp hb
      have c0 := cellOf hb 0 (v := .int .u32 (q.a : Int)) rfl
      have c1 := cellOf hb 1 (v := .int .i64 q.l) rfl
      have d0 := cellOf kb 0 (v := .int .u32 (p.a : Int)) rfl
      have d1 := cellOf kb 1 (v := .int .i64 p.l) rfl
      have C0 := hidp (show ∀ W, Below w1.heap.size w1 W → W.cell? ⟨b, 0, none⟩ = some (.int .u32 (q.a : Int)) from fun W hW => below_cell hW (Nat.le_refl _) _ _ c0)
      have C1 := hidp (show ∀ W, Below w1.heap.size w1 W → W.cell? ⟨b, 1, none⟩ = some (.int .i64 q.l) from fun W hW => below_cell hW (Nat.le_refl _) _ _ c1)
      have C14 := hidp (show ∀ W, Below w1.heap.size w1 W → W.cell? ⟨b, 14, none⟩ = some vl from fun W hW => below_cell hW (Nat.le_refl _) _ _ (cellOf hb 14 rfl))
      have C15 := hidp (show ∀ W, Below w1.heap.size w1 W → W.cell? ⟨b, 15, none⟩ = some vr from fun W hW => below_cell hW (Nat.le_refl _) _ _ (cellOf hb 15 rfl))
      have D0 := hidp (show ∀ W, Below w1.heap.size w1 W → W.cell? ⟨w.heap.size, 0, none⟩ = some (.int .u32 (p.a : Int)) from fun W hW => below_cell hW (Nat.le_refl _) _ _ d0)
      have D1 := hidp (show ∀ W, Below w1.heap.size w1 W → W.cell? ⟨w.heap.size, 1, none⟩ = some (.int .i64 p.l) from fun W hW => below_cell hW (Nat.le_refl _) _ _ d1)
      clear hft hB kb hsz hb hq hv hl hr
      by_cases hsm : samePf q p = true
      · have l1 : ((q.a : Int) == (p.a : Int) && q.l == p.l) = true := hsm
        have HF := hidp (show findT (.node b q hs vv l r) p = .node b q hs vv l r by rw [findT, if_pos hsm])
        have heq := HEQ.out
        clear hsm
        go_upto_region 1 with (fail)
        go_quiet (fail)
        go_wp2
        go_ret
        exact ⟨ret_of (by rw [← HFT.out, HF.out]; rfl), below_drewN HB1.out _⟩
      · have l1 : ((q.a : Int) == (p.a : Int) && q.l == p.l) = false := by
          have h1 : samePf q p = false := by simpa using hsm
          exact h1
        have HN := hidp (show (coversF q p = false → findT (.node b q hs vv l r) p = .nil) ∧ (coversF q p = true → findT (.node b q hs vv l r) p = if sideF q p = 0 then findT l p else findT r p) from ⟨fun h => by rw [findT, if_neg hsm, if_neg (by rw [h]; simp)], fun h => by rw [findT, if_neg hsm, if_pos h]⟩)
        have heq := HEQ.out
        obtain ⟨cv, hcv⟩ : ∃ cv, coversF q p = cv := ⟨_, rfl⟩
        have HCV := hidp hcv
        clear hsm hcv
        go_upto_region 1 with (fail)
        go_quiet (fail)
        go_wp2
        clear c0 c1 d0 d1 heq
        refine wp_region_flow2 (fun iqv => ([(.pointer (some ⟨b, 0, none⟩) : Value), (.pointer (some ⟨b, 0, none⟩) : Value), (.pointer (some ⟨b, 0, none⟩) : Value), (.agg #[.int .u32 (q.a : Int), .int .i64 q.l] : Value), (.agg #[.int .u32 (p.a : Int), .int .i64 p.l] : Value), (.bool cv : Value), (.bool (!cv) : Value)] : List Value).getD iqv undef) [(some 15, .pointer (some ⟨b, 0, none⟩)), (some 16, .pointer (some ⟨b, 0, none⟩)), (some 17, .pointer (some ⟨b, 0, none⟩)), (some 18, .agg #[.int .u32 (q.a : Int), .int .i64 q.l]), (some 19, .agg #[.int .u32 (p.a : Int), .int .i64 p.l]), (some 20, .bool cv), (some 21, .bool (!cv))] (fun W : World => Below w1.heap.size w1 W) (by kernel_rfl) (by kernel_rfl) ((below_drewN (Below.refl _ _) _).drew) (fun iq hiq => ?_) (by kernel_rfl) (fun W hSW => ?_)
        · match iq, hiq with
          | 0, _ =>
            intro aq W hSW hf
            have v0 : aq.tmps[0]? = some (.pointer (some ⟨b, 0, none⟩)) := (hf.at_base 0 (by kernel_rfl)).trans rfl
            clear hf
            refine wpOp_flow rfl (by rfl) (fun Kq hK => ?_)
            go_simp
            exact hK _ _ ⟨rfl, hSW⟩
          | 1, _ =>
            intro aq W hSW hf
            have v15 : aq.tmps[15]? = some (.pointer (some ⟨b, 0, none⟩)) := hf.val 0 15 (by kernel_rfl) rfl
            clear hf
            refine wpOp_flow rfl (by rfl) (fun Kq hK => ?_)
            go_simp
            exact hK _ _ ⟨rfl, hSW⟩
          | 2, _ =>
            intro aq W hSW hf
            have v16 : aq.tmps[16]? = some (.pointer (some ⟨b, 0, none⟩)) := hf.val 1 16 (by kernel_rfl) rfl
            clear hf
            refine wpOp_flow rfl (by rfl) (fun Kq hK => ?_)
            go_simp
            exact hK _ _ ⟨rfl, hSW⟩
          | 3, _ =>
            intro aq W hSW hf
            have v17 : aq.tmps[17]? = some (.pointer (some ⟨b, 0, none⟩)) := hf.val 2 17 (by kernel_rfl) rfl
            clear hf
            refine wpOp_flow rfl (by rfl) (fun Kq hK => ?_)
            have c0 := C0.out W hSW
            have c1 := C1.out W hSW
            go_simp
            exact hK _ _ ⟨rfl, hSW⟩
          | 4, _ =>
            intro aq W hSW hf
            have v3 : aq.tmps[3]? = some (.pointer (some ⟨w.heap.size, 0, none⟩)) := (hf.at_base 3 (by kernel_rfl)).trans rfl
            clear hf
            refine wpOp_flow rfl (by rfl) (fun Kq hK => ?_)
            have d0 := D0.out W hSW
            have d1 := D1.out W hSW
            go_simp
            exact hK _ _ ⟨rfl, hSW⟩
          | 5, _ =>
            intro aq W hSW hf
            have v18 : aq.tmps[18]? = some (.agg #[.int .u32 (q.a : Int), .int .i64 q.l]) := hf.val 3 18 (by kernel_rfl) rfl
            have v19 : aq.tmps[19]? = some (.agg #[.int .u32 (p.a : Int), .int .i64 p.l]) := hf.val 4 19 (by kernel_rfl) rfl
            clear hf
            refine wpOp_flow rfl (by rfl) (fun Kq hK => ?_)
            go_simp
            refine (covers_any q p HQP.out.1 HQP.out.2 _).mono ?_
            rw [HCV.out]
            rintro e w19 ⟨rfl, B19⟩
            exact hK _ _ ⟨rfl, hSW.trans (B19.mono hSW.size)⟩
          | 6, _ =>
            intro aq W hSW hf
            have v20 : aq.tmps[20]? = some (.bool cv) := hf.val 5 20 (by kernel_rfl) rfl
            clear hf
            refine wpOp_flow rfl (by rfl) (fun Kq hK => ?_)
            go_simp
            exact hK _ _ ⟨rfl, hSW⟩
          | kq + 7, hk => exact absurd hk (by first | omega | (intro h; simp at h; omega))
        · simp only [puts, Act.put, List.setIfInBounds_toArray, List.set_cons_zero, List.set_cons_succ]
          obtain ⟨w2, rfl⟩ : ∃ w2, w2 = W := ⟨_, rfl⟩
          have HB2 := hidp hSW
          clear hSW
          cases cv with
          | false =>
            have HF := hidp (HN.out.1 HCV.out)
            go_wp2
            go_ret
            exact ⟨ret_of (by rw [← HFT.out, HF.out]; rfl), HB1.out.trans (HB2.out.mono HB1.out.size)⟩
          | true =>
            go_wp2
            have hd2 : Below w2.heap.size w2 w2.drew := (Below.refl _ _).drew
            rcases side_lt q p with hs | hs
            · have HSD := hidp hs
              clear hs
              refine wp_region_flowL (fun iqv => ([(.pointer (some ⟨b, 0, none⟩) : Value), (.pointer (some ⟨b, 0, none⟩) : Value), (.pointer (some ⟨b, 0, none⟩) : Value), (.pointer (some ⟨b, 0, none⟩) : Value), (.agg #[.int .u32 (q.a : Int), .int .i64 q.l] : Value), (.agg #[.int .u32 (p.a : Int), .int .i64 p.l] : Value), (.int .i64 (0 : Int) : Value), (.pointer (some ⟨b, 0, none⟩) : Value), (.pointer (some ⟨b, 14, none⟩) : Value), (.pointer (some ⟨b, 14, none⟩) : Value), (vl : Value), (vl : Value)] : List Value).getD iqv undef) 11 [(some 22, .pointer (some ⟨b, 0, none⟩)), (some 23, .pointer (some ⟨b, 0, none⟩)), (some 24, .pointer (some ⟨b, 0, none⟩)), (some 25, .pointer (some ⟨b, 0, none⟩)), (some 26, .agg #[.int .u32 (q.a : Int), .int .i64 q.l]), (some 27, .agg #[.int .u32 (p.a : Int), .int .i64 p.l]), (some 28, .int .i64 (0 : Int)), (some 29, .pointer (some ⟨b, 0, none⟩)), (some 30, .pointer (some ⟨b, 14, none⟩)), (some 31, .pointer (some ⟨b, 14, none⟩)), (some 32, vl), (some 0, vl)] (fun W : World => Below w2.heap.size w2 W) (by kernel_rfl) (by kernel_rfl) hd2 (fun iq hiq => ?_) (by kernel_rfl) (fun W hSW => ?_)
              · match iq, hiq with
                | 0, _ =>
                  intro aq W hSW hf
                  have v0 : aq.tmps[0]? = some (.pointer (some ⟨b, 0, none⟩)) := (hf.at_base 0 (by kernel_rfl)).trans rfl
                  clear hf
                  refine wpOp_flow rfl (by rfl) (fun Kq hK => ?_)
                  go_simp
                  exact hK _ _ ⟨rfl, hSW⟩
                | 1, _ =>
                  intro aq W hSW hf
                  have v0 : aq.tmps[0]? = some (.pointer (some ⟨b, 0, none⟩)) := (hf.at_base 0 (by kernel_rfl)).trans rfl
                  clear hf
                  refine wpOp_flow rfl (by rfl) (fun Kq hK => ?_)
                  go_simp
                  exact hK _ _ ⟨rfl, hSW⟩
                | 2, _ =>
                  intro aq W hSW hf
                  have v23 : aq.tmps[23]? = some (.pointer (some ⟨b, 0, none⟩)) := hf.val 1 23 (by kernel_rfl) rfl
                  clear hf
                  refine wpOp_flow rfl (by rfl) (fun Kq hK => ?_)
                  go_simp
                  exact hK _ _ ⟨rfl, hSW⟩
                | 3, _ =>
                  intro aq W hSW hf
                  have v24 : aq.tmps[24]? = some (.pointer (some ⟨b, 0, none⟩)) := hf.val 2 24 (by kernel_rfl) rfl
                  clear hf
                  refine wpOp_flow rfl (by rfl) (fun Kq hK => ?_)
                  go_simp
                  exact hK _ _ ⟨rfl, hSW⟩
                | 4, _ =>
                  intro aq W hSW hf
                  have v25 : aq.tmps[25]? = some (.pointer (some ⟨b, 0, none⟩)) := hf.val 3 25 (by kernel_rfl) rfl
                  clear hf
                  refine wpOp_flow rfl (by rfl) (fun Kq hK => ?_)
                  have c0 := C0.out W (HB2.out.trans (hSW.mono HB2.out.size))
                  have c1 := C1.out W (HB2.out.trans (hSW.mono HB2.out.size))
                  go_simp
                  exact hK _ _ ⟨rfl, hSW⟩
                | 5, _ =>
                  intro aq W hSW hf
                  have v3 : aq.tmps[3]? = some (.pointer (some ⟨w.heap.size, 0, none⟩)) := (hf.at_base 3 (by kernel_rfl)).trans rfl
                  clear hf
                  refine wpOp_flow rfl (by rfl) (fun Kq hK => ?_)
                  have d0 := D0.out W (HB2.out.trans (hSW.mono HB2.out.size))
                  have d1 := D1.out W (HB2.out.trans (hSW.mono HB2.out.size))
                  go_simp
                  exact hK _ _ ⟨rfl, hSW⟩
                | 6, _ =>
                  intro aq W hSW hf
                  have v26 : aq.tmps[26]? = some (.agg #[.int .u32 (q.a : Int), .int .i64 q.l]) := hf.val 4 26 (by kernel_rfl) rfl
                  have v27 : aq.tmps[27]? = some (.agg #[.int .u32 (p.a : Int), .int .i64 p.l]) := hf.val 5 27 (by kernel_rfl) rfl
                  clear hf
                  refine wpOp_flow rfl (by rfl) (fun Kq hK => ?_)
                  go_simp
                  refine (side_any q p HQP.out.2 _).mono ?_
                  rw [HSD.out]
                  rintro e w19 ⟨rfl, B19⟩
                  exact hK _ _ ⟨rfl, hSW.trans (B19.mono hSW.size)⟩
                | 7, _ =>
                  intro aq W hSW hf
                  have v22 : aq.tmps[22]? = some (.pointer (some ⟨b, 0, none⟩)) := hf.val 0 22 (by kernel_rfl) rfl
                  clear hf
                  refine wpOp_flow rfl (by rfl) (fun Kq hK => ?_)
                  go_simp
                  exact hK _ _ ⟨rfl, hSW⟩
                | 8, _ =>
                  intro aq W hSW hf
                  have v29 : aq.tmps[29]? = some (.pointer (some ⟨b, 0, none⟩)) := hf.val 7 29 (by kernel_rfl) rfl
                  clear hf
                  refine wpOp_flow rfl (by rfl) (fun Kq hK => ?_)
                  go_simp
                  exact hK _ _ ⟨rfl, hSW⟩
                | 9, _ =>
                  intro aq W hSW hf
                  have v28 : aq.tmps[28]? = some (.int .i64 (0 : Int)) := hf.val 6 28 (by kernel_rfl) rfl
                  have v30 : aq.tmps[30]? = some (.pointer (some ⟨b, 14, none⟩)) := hf.val 8 30 (by kernel_rfl) rfl
                  clear hf
                  refine wpOp_flow rfl (by rfl) (fun Kq hK => ?_)
                  go_simp
                  exact hK _ _ ⟨rfl, hSW⟩
                | 10, _ =>
                  intro aq W hSW hf
                  have v31 : aq.tmps[31]? = some (.pointer (some ⟨b, 14, none⟩)) := hf.val 9 31 (by kernel_rfl) rfl
                  clear hf
                  refine wpOp_flow rfl (by rfl) (fun Kq hK => ?_)
                  have ck := C14.out W (HB2.out.trans (hSW.mono HB2.out.size))
                  go_simp
                  exact hK _ _ ⟨rfl, hSW⟩
                | 11, _ =>
                  intro aq W hSW hf
                  have v32 : aq.tmps[32]? = some (vl) := hf.val 10 32 (by kernel_rfl) rfl
                  clear hf
                  refine wpOp_flow rfl (by rfl) (fun Kq hK => ?_)
                  go_simp
                  exact hK _ _ ⟨rfl, hSW⟩
                | kq + 12, hk => exact absurd hk (by first | omega | (intro h; simp at h; omega))
              · simp only [puts, Act.put, List.setIfInBounds_toArray, List.set_cons_zero, List.set_cons_succ]
                have HB3 := hidp (HB2.out.trans (hSW.mono HB2.out.size))
                clear hSW
                have HF := hidp (HN.out.2 HCV.out)
                rw [HSD.out] at HF
                go_wp2
                go_roundg l.size
                case measure => have := HSZ.out; simp only [Tr.size] at this; omega
                case rel => exact ⟨l, Nat.le_refl _, HVP.out.1, HK.out.1.below HB3.out, by rw [← HFT.out, HF.out]; rfl, HB0.out.trans (HB3.out.mono HB0.out.size)⟩
            · have HSD := hidp hs
              clear hs
              refine wp_region_flowL (fun iqv => ([(.pointer (some ⟨b, 0, none⟩) : Value), (.pointer (some ⟨b, 0, none⟩) : Value), (.pointer (some ⟨b, 0, none⟩) : Value), (.pointer (some ⟨b, 0, none⟩) : Value), (.agg #[.int .u32 (q.a : Int), .int .i64 q.l] : Value), (.agg #[.int .u32 (p.a : Int), .int .i64 p.l] : Value), (.int .i64 (1 : Int) : Value), (.pointer (some ⟨b, 0, none⟩) : Value), (.pointer (some ⟨b, 14, none⟩) : Value), (.pointer (some ⟨b, 15, none⟩) : Value), (vr : Value), (vr : Value)] : List Value).getD iqv undef) 11 [(some 22, .pointer (some ⟨b, 0, none⟩)), (some 23, .pointer (some ⟨b, 0, none⟩)), (some 24, .pointer (some ⟨b, 0, none⟩)), (some 25, .pointer (some ⟨b, 0, none⟩)), (some 26, .agg #[.int .u32 (q.a : Int), .int .i64 q.l]), (some 27, .agg #[.int .u32 (p.a : Int), .int .i64 p.l]), (some 28, .int .i64 (1 : Int)), (some 29, .pointer (some ⟨b, 0, none⟩)), (some 30, .pointer (some ⟨b, 14, none⟩)), (some 31, .pointer (some ⟨b, 15, none⟩)), (some 32, vr), (some 0, vr)] (fun W : World => Below w2.heap.size w2 W) (by kernel_rfl) (by kernel_rfl) hd2 (fun iq hiq => ?_) (by kernel_rfl) (fun W hSW => ?_)
              · match iq, hiq with
                | 0, _ =>
                  intro aq W hSW hf
                  have v0 : aq.tmps[0]? = some (.pointer (some ⟨b, 0, none⟩)) := (hf.at_base 0 (by kernel_rfl)).trans rfl
                  clear hf
                  refine wpOp_flow rfl (by rfl) (fun Kq hK => ?_)
                  go_simp
                  exact hK _ _ ⟨rfl, hSW⟩
                | 1, _ =>
                  intro aq W hSW hf
                  have v0 : aq.tmps[0]? = some (.pointer (some ⟨b, 0, none⟩)) := (hf.at_base 0 (by kernel_rfl)).trans rfl
                  clear hf
                  refine wpOp_flow rfl (by rfl) (fun Kq hK => ?_)
                  go_simp
                  exact hK _ _ ⟨rfl, hSW⟩
                | 2, _ =>
                  intro aq W hSW hf
                  have v23 : aq.tmps[23]? = some (.pointer (some ⟨b, 0, none⟩)) := hf.val 1 23 (by kernel_rfl) rfl
                  clear hf
                  refine wpOp_flow rfl (by rfl) (fun Kq hK => ?_)
                  go_simp
                  exact hK _ _ ⟨rfl, hSW⟩
                | 3, _ =>
                  intro aq W hSW hf
                  have v24 : aq.tmps[24]? = some (.pointer (some ⟨b, 0, none⟩)) := hf.val 2 24 (by kernel_rfl) rfl
                  clear hf
                  refine wpOp_flow rfl (by rfl) (fun Kq hK => ?_)
                  go_simp
                  exact hK _ _ ⟨rfl, hSW⟩
                | 4, _ =>
                  intro aq W hSW hf
                  have v25 : aq.tmps[25]? = some (.pointer (some ⟨b, 0, none⟩)) := hf.val 3 25 (by kernel_rfl) rfl
                  clear hf
                  refine wpOp_flow rfl (by rfl) (fun Kq hK => ?_)
                  have c0 := C0.out W (HB2.out.trans (hSW.mono HB2.out.size))
                  have c1 := C1.out W (HB2.out.trans (hSW.mono HB2.out.size))
                  go_simp
                  exact hK _ _ ⟨rfl, hSW⟩
                | 5, _ =>
                  intro aq W hSW hf
                  have v3 : aq.tmps[3]? = some (.pointer (some ⟨w.heap.size, 0, none⟩)) := (hf.at_base 3 (by kernel_rfl)).trans rfl
                  clear hf
                  refine wpOp_flow rfl (by rfl) (fun Kq hK => ?_)
                  have d0 := D0.out W (HB2.out.trans (hSW.mono HB2.out.size))
                  have d1 := D1.out W (HB2.out.trans (hSW.mono HB2.out.size))
                  go_simp
                  exact hK _ _ ⟨rfl, hSW⟩
                | 6, _ =>
                  intro aq W hSW hf
                  have v26 : aq.tmps[26]? = some (.agg #[.int .u32 (q.a : Int), .int .i64 q.l]) := hf.val 4 26 (by kernel_rfl) rfl
                  have v27 : aq.tmps[27]? = some (.agg #[.int .u32 (p.a : Int), .int .i64 p.l]) := hf.val 5 27 (by kernel_rfl) rfl
                  clear hf
                  refine wpOp_flow rfl (by rfl) (fun Kq hK => ?_)
                  go_simp
                  refine (side_any q p HQP.out.2 _).mono ?_
                  rw [HSD.out]
                  rintro e w19 ⟨rfl, B19⟩
                  exact hK _ _ ⟨rfl, hSW.trans (B19.mono hSW.size)⟩
                | 7, _ =>
                  intro aq W hSW hf
                  have v22 : aq.tmps[22]? = some (.pointer (some ⟨b, 0, none⟩)) := hf.val 0 22 (by kernel_rfl) rfl
                  clear hf
                  refine wpOp_flow rfl (by rfl) (fun Kq hK => ?_)
                  go_simp
                  exact hK _ _ ⟨rfl, hSW⟩
                | 8, _ =>
                  intro aq W hSW hf
                  have v29 : aq.tmps[29]? = some (.pointer (some ⟨b, 0, none⟩)) := hf.val 7 29 (by kernel_rfl) rfl
                  clear hf
                  refine wpOp_flow rfl (by rfl) (fun Kq hK => ?_)
                  go_simp
                  exact hK _ _ ⟨rfl, hSW⟩
                | 9, _ =>
                  intro aq W hSW hf
                  have v28 : aq.tmps[28]? = some (.int .i64 (1 : Int)) := hf.val 6 28 (by kernel_rfl) rfl
                  have v30 : aq.tmps[30]? = some (.pointer (some ⟨b, 14, none⟩)) := hf.val 8 30 (by kernel_rfl) rfl
                  clear hf
                  refine wpOp_flow rfl (by rfl) (fun Kq hK => ?_)
                  go_simp
                  exact hK _ _ ⟨rfl, hSW⟩
                | 10, _ =>
                  intro aq W hSW hf
                  have v31 : aq.tmps[31]? = some (.pointer (some ⟨b, 15, none⟩)) := hf.val 9 31 (by kernel_rfl) rfl
                  clear hf
                  refine wpOp_flow rfl (by rfl) (fun Kq hK => ?_)
                  have ck := C15.out W (HB2.out.trans (hSW.mono HB2.out.size))
                  go_simp
                  exact hK _ _ ⟨rfl, hSW⟩
                | 11, _ =>
                  intro aq W hSW hf
                  have v32 : aq.tmps[32]? = some (vr) := hf.val 10 32 (by kernel_rfl) rfl
                  clear hf
                  refine wpOp_flow rfl (by rfl) (fun Kq hK => ?_)
                  go_simp
                  exact hK _ _ ⟨rfl, hSW⟩
                | kq + 12, hk => exact absurd hk (by first | omega | (intro h; simp at h; omega))
              · simp only [puts, Act.put, List.setIfInBounds_toArray, List.set_cons_zero, List.set_cons_succ]
                have HB3 := hidp (HB2.out.trans (hSW.mono HB2.out.size))
                clear hSW
                have HF := hidp (HN.out.2 HCV.out)
                rw [HSD.out] at HF
                go_wp2
                go_roundg r.size
                case measure => have := HSZ.out; simp only [Tr.size] at this; omega
                case rel => exact ⟨r, Nat.le_refl _, HVP.out.2, HK.out.2.below HB3.out, by rw [← HFT.out, HF.out]; rfl, HB0.out.trans (HB3.out.mono HB0.out.size)⟩
end Go.Proofs.Ytnenpfalhbbadaa
