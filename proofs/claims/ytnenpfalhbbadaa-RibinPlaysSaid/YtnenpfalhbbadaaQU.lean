/- Update of a peer's routes. -/
import Derived.Test.YtnenpfalhbbadaaQG
import Derived.Test.YtnenpfalhbbadaaPV
import Derived.Test.YtnenpfalhbbadaaFlowH
namespace Go.Proofs.Ytnenpfalhbbadaa
open Go.RowKit

section
variable {P : Program} {w : World}
theorem wp_append_src {o : Oper} {a : Act} {K : Act → World → Prop} {Q : Exit → Act → World → Prop} (s x : Operand) (t : TypeId)
    (ho : o.op = .call { callee := .builtin .append, args := #[s, x], argTypes := #[t, t] })
    (base : Nat) (e : TypeId) (i : TypeInfo) (z : Value) (size bytes : Nat) (ht : P.underlying t = some (.slice e)) (hi : P.info? e = some i) (hz : i.zero = some z)
    (hsize : i.size = size) (hby : i.bytes = bytes) (hzs : z.cells.size = size) (hsz : 0 < size)
    (v : Value) (n : Nat) (xs : List Value) (hs : a.eval s = v) (hown : w.ownsRow base e size v n xs)
    (A : Option Addr) (m c : Nat) (news : List Value) (hx : a.eval x = .slice A m c) (hl : news.length = m * size)
    (hnews : 0 < m → ∃ ad, A = some ad ∧ ∀ j u, news[j]? = some u → w.cell? (ad.add j) = some u) (h1 : ∀ u ∈ news, u.oneCell' = true)
    (h63 : n + m ≤ maxLen) (hbytes : (n + m) * bytes ≤ 140737488355328) (hbase : base ≤ w.heap.size)
    (h : ∀ v' w', w'.ownsRow base e size v' (n + m) (xs ++ news) → w.grownBy w' v.ownBlock → K (a.put o.dst v') w') : o.wp P a w K Q := by
  have hr : ∃ v' w', (Builtin.append_ #[t, t] o.type #[v, .slice A m c]).run P w = .ok v' w' ∧ w'.ownsRow base e size v' (n + m) (xs ++ news) ∧ w.grownBy w' v.ownBlock := by
    rcases Nat.eq_zero_or_pos m with h0 | h0
    · subst h0
      obtain rfl : news = [] := List.eq_nil_of_length_eq_zero (by simpa using hl)
      cases A with
      | none => exact ⟨v, w, run_append_void base t o.type e i size ht hi v n xs hown c, by simpa using hown, World.grownBy.refl w _⟩
      | some ad =>
        obtain ⟨v', w', hr, h2, h3, -⟩ := run_append_own_at (P := P) w base t o.type e i z size bytes ht hi hz hsize hby hzs hsz v n xs hown ad 0 c [] hl (fun j u hu => by simp at hu) h1 h63 hbytes hbase
        exact ⟨v', w', hr, h2, h3⟩
    · obtain ⟨ad, rfl, hn⟩ := hnews h0
      obtain ⟨v', w', hr, h2, h3, -⟩ := run_append_own_at (P := P) w base t o.type e i z size bytes ht hi hz hsize hby hzs hsz v n xs hown ad m c news hl hn h1 h63 hbytes hbase
      exact ⟨v', w', hr, h2, h3⟩
  obtain ⟨v', w', hr, h2, h3⟩ := hr
  unfold Oper.wp execOp
  simp only [ho, resolve, invoke, builtin, Sem.run_bind, Sem.run_pure, Result.andThen_ok, List.map_toArray, List.map_cons, List.map_nil, hs, hx, hr]
  exact h v' w' h2 h3
end

/-- a tree without prefixes, and how many routes it has then -/
def delL : Ab → Int → List Pf → Ab × Int
  | A, n, [] => (A, n)
  | A, n, p :: r => if (getA A p).2 = true then delL (delA A p) (n - 1) r else delL A n r
/-- the routes behind an update, how many, and whether one was refused -/
def updA (A : Ab) (n lim : Int) (u : Upd) : Ab × Int × Bool := putL u.att lim (delL A n u.gone).1 (delL A n u.gone).2 u.news
def UpdE (wA : World) (r : Ab × Int × Bool) (lim : Int) (f : Pf → Bool) (l : List Pf) (e : Ending) (W : World) : Prop :=
  ∃ (b : Nat) (a : Option Addr) (c : Nat), e = .returned (.tuple #[.pointer (some ⟨b, 0, none⟩), .slice a (diffL f l).length c, .bool r.2.2]) ∧ InAt wA W (some ⟨b, 0, none⟩) r.1 r.2.1 lim ∧ PfsV W a (diffL f l).length (diffL f l)
def PutG (wA : World) (A : Ab) (n : Int) (g : Option Addr) (W : World) : Prop := ∃ (b : Nat) (t : Tr), g = some ⟨b, 0, none⟩ ∧ TrieAt wA W b t n ∧ t.ab = A
theorem DiffE.below {f : Pf → Bool} {l : List Pf} {e : Ending} {W W' : World} (h : DiffE f l e W) (hB : Below W.heap.size W W') : DiffE f l e W' := by
  obtain ⟨a, c, h1, h2, h3⟩ := h
  exact ⟨a, c, h1, h2.below hB, h3⟩
theorem ownsRow_blk {w : World} {base : Nat} {e : TypeId} {size n : Nat} {v : Value} {xs : List Value} (h : w.ownsRow base e size v n xs) : ∀ g, v.ownBlock = some g → base ≤ g ∧ ∃ cur, w.heap[g]? = some (.cells cur e (0, 0)) := by
  obtain ⟨h1, ⟨hv, _⟩ | ⟨g, cap, cur, hv, hg, hh, r⟩⟩ := h
  · intro k hk; rw [hv] at hk; cases hk
  · intro k hk; rw [hv] at hk; cases hk; exact ⟨hg, cur, hh⟩
theorem own_pfs {w : World} {base n : Nat} {v : Value} {l : List Pf} (h : w.ownsRow base 44 2 v n (l.flatMap Pf.cells)) (hok : ∀ p ∈ l, p.ok) : ∃ a c, v = .slice a n c ∧ PfsV w a n l := by
  have hl := h.1
  rw [pfs_len] at hl
  obtain ⟨h1, ⟨hv, h0⟩ | ⟨g, cap, cur, hv, hg, hh, hn, hm, hs, ht⟩⟩ := h
  · exact ⟨none, 0, by rw [hv, h0], ⟨⟨h1, fun hp => absurd hp (by omega)⟩, by omega, hok⟩⟩
  · refine ⟨_, _, hv, ⟨⟨h1, fun _ => ⟨g, 0, rfl, fun j x hx => ?_⟩⟩, by omega, hok⟩⟩
    refine cellOf hh (0 + j) ?_
    rw [Nat.zero_add]
    rw [← ht, List.getElem?_take] at hx
    by_cases hj : j < n * 2
    · rw [if_pos hj] at hx; simpa using hx
    · rw [if_neg hj] at hx; cases hx
/-- what stands while the answer is made -/
structure UB (w9 : World) (b2 : Nat) (lim : Int) (u : Upd) (f : Pf → Bool) (d4 d9 d12 d13 : Bool) (g : Option Addr × Value × Value × Value) (W : World) : Prop where
  bel : Below w9.heap.size w9 W
  box : d4 = true → ∃ b, g.1 = some ⟨b, 0, none⟩ ∧ W.heap[b]? = some (.cells #[.pointer (some ⟨b2, 0, none⟩), .int .i64 lim] 61 (0, 0))
  cl : d9 = true → d12 = false → W.ownsRow w9.heap.size 44 2 g.2.1 u.gn (u.gone.flatMap Pf.cells)
  app : d12 = true → ∃ a c, g.2.2.1 = .slice a (u.gn + u.nn) c ∧ PfsV W a (u.gn + u.nn) (u.gone ++ u.news)
  dif : d13 = true → DiffE f (u.gone ++ u.news) (.returned g.2.2.2) W
theorem UB.below {w9 W W' : World} {b2 : Nat} {lim : Int} {u : Upd} {f : Pf → Bool} {d4 d9 d12 d13 : Bool} {g : Option Addr × Value × Value × Value} (h : UB w9 b2 lim u f d4 d9 d12 d13 g W) (hB : Below W.heap.size W W') : UB w9 b2 lim u f d4 d9 d12 d13 g W' :=
  ⟨h.bel.trans (hB.mono h.bel.size), fun hd => by obtain ⟨b, h1, h2⟩ := h.box hd; exact ⟨b, h1, heap_below hB h2 (ltOf h2)⟩, fun h1 h2 => ownsRow_below (h.cl h1 h2) hB (Nat.le_refl _), fun hd => by obtain ⟨a, c, h1, h2⟩ := h.app hd; exact ⟨a, c, h1, h2.below hB⟩, fun hd => (h.dif hd).below hB⟩
theorem UB.s4 {w9 W : World} {b2 : Nat} {lim : Int} {u : Upd} {f : Pf → Bool} {d4 d9 d12 d13 : Bool} {g : Option Addr × Value × Value × Value} (h : UB w9 b2 lim u f d4 d9 d12 d13 g W) :
    UB w9 b2 lim u f true d9 d12 d13 (some ⟨W.heap.size, 0, none⟩, g.2) (W.alloc (.cells #[.pointer (some ⟨b2, 0, none⟩), .int .i64 lim] 61)) := by
  have h' := h.below ((Below.refl W.heap.size W).alloc (Nat.le_refl _) (.cells #[.pointer (some ⟨b2, 0, none⟩), .int .i64 lim] 61))
  exact ⟨h'.bel, fun _ => ⟨W.heap.size, rfl, heap_alloc_new _ _⟩, h'.cl, h'.app, h'.dif⟩
theorem UB.s9 {w9 W W' : World} {b2 : Nat} {lim : Int} {u : Upd} {f : Pf → Bool} {d4 d9 d12 d13 : Bool} {g : Option Addr × Value × Value × Value} (h : UB w9 b2 lim u f d4 d9 d12 d13 g W) {v : Value}
    (hv : W'.ownsRow W.heap.size 44 2 v u.gn (u.gone.flatMap Pf.cells)) (hB : Below W.heap.size W W') : UB w9 b2 lim u f d4 true d12 d13 (g.1, v, g.2.2) W' := by
  have h' := h.below hB
  exact ⟨h'.bel, h'.box, fun _ _ => ownsRow_weaken hv h.bel.size, h'.app, h'.dif⟩
theorem UB.s12 {w9 W W' : World} {b2 : Nat} {lim : Int} {u : Upd} {f : Pf → Bool} {d4 d9 d12 d13 : Bool} {g : Option Addr × Value × Value × Value} (h : UB w9 b2 lim u f d4 d9 d12 d13 g W) (h9 : d9 = true) (h12 : d12 = false) (h13 : d13 = false) {v : Value}
    (hG : PfsV w9 u.ga u.gn u.gone) (hN : PfsV w9 u.na u.nn u.news)
    (hv : W'.ownsRow w9.heap.size 44 2 v (u.gn + u.nn) (u.gone.flatMap Pf.cells ++ u.news.flatMap Pf.cells)) (hg : W.grownBy W' g.2.1.ownBlock) : UB w9 b2 lim u f d4 d9 true d13 (g.1, g.2.1, v, g.2.2.2) W' := by
  have ho := ownsRow_blk (h.cl h9 h12)
  refine ⟨h.bel.grown hg h.bel.size fun k hk => (ho k hk).1, fun hd => ?_, fun _ h => (by cases h), fun _ => own_pfs (by rw [List.flatMap_append]; exact hv) fun p hp => ?_, fun hd => ?_⟩
  · obtain ⟨b, h1, h2⟩ := h.box hd
    refine ⟨b, h1, heap_grown hg h2 fun e => ?_⟩
    obtain ⟨_, cur, hc⟩ := ho b e.symm
    rw [h2] at hc
    cases hc
  · rcases List.mem_append.1 hp with hp | hp
    · exact hG.2.2 p hp
    · exact hN.2.2 p hp
  · rw [h13] at hd; cases hd
theorem UB.s13 {w9 W W' : World} {b2 : Nat} {lim : Int} {u : Upd} {f : Pf → Bool} {d4 d9 d12 d13 : Bool} {g : Option Addr × Value × Value × Value} (h : UB w9 b2 lim u f d4 d9 d12 d13 g W) {v : Value}
    (hv : DiffE f (u.gone ++ u.news) (.returned v) W') (hB : Below W.heap.size W W') : UB w9 b2 lim u f d4 d9 d12 true (g.1, g.2.1, g.2.2.1, v) W' := by
  have h' := h.below hB
  exact ⟨h'.bel, h'.box, h'.cl, h'.app, fun _ => hv⟩
structure ULoop (wA w1 : World) (A : Ab) (n : Int) (l : List Pf) (j b : Nat) (t : Tr) (m : Int) (W : World) : Prop where
  bel : Below w1.heap.size w1 W
  trie : TrieAt wA W b t m
  rel : delL t.ab m (l.drop j) = delL A n l
  lo : n - j ≤ m
  hi : m ≤ n
theorem ULoop.below {wA w1 W W' : World} {A : Ab} {n : Int} {l : List Pf} {j b : Nat} {t : Tr} {m : Int} (h : ULoop wA w1 A n l j b t m W) (hB : Below W.heap.size W W') : ULoop wA w1 A n l j b t m W' :=
  ⟨h.bel.trans (hB.mono h.bel.size), h.trie.below hB, h.rel, h.lo, h.hi⟩

set_option maxRecDepth 100000 in
set_option maxHeartbeats 8000000 in
theorem update_any (H45 : Same45) (wA : World) (x : Option Addr) (A : Ab) (n lim : Int) (u : Upd) (w : World) (h : InAt wA w x A n lim) (hu : u.at w) (huA : u.att.at wA) (hwA : Below wA.heap.size wA w) (hg : u.gn ≤ 500) (hn : u.nn ≤ 500) (hb0 : -1000000 ≤ n) (hb1 : n ≤ 1000000) :
    Calls Try.prog 11 #[.pointer x, u.val] w fun e w' => UpdE wA (updA A n lim u) lim (otherA A (updA A n lim u).1) (u.gone ++ u.news) e w' ∧ Below w.heap.size w w' := by
  obtain ⟨i0, hi0, hz0, hz1, hz2⟩ := info_parts Try.infos44
  have hb := (Below.refl w.heap.size w).alloc (Nat.le_refl _) (.cells u.cells.toArray 39)
  have k0 := heap_alloc_new w (.cells u.cells.toArray 39)
  have HX := hidp (h.below hb)
  have HU := hidp (hu.below hb)
  have HW := hidp (hwA.trans (hb.mono hwA.size))
  have HB := hidp hb
  have huv : u.val = .agg u.cells.toArray := rfl
  rw [huv]
  clear hb h hu hwA huv
  go_enter Try.func11, Try.ntmps11
  go_upto_region 1 with (fail)
  change Code.wp Try.prog _ _ _ (w.alloc (.cells u.cells.toArray 39))
  generalize w.alloc (.cells u.cells.toArray 39) = w0 at *
  have K0 := hidp k0
  clear k0
  go_upto_region 3 with (go_at_call 18; refine (table_any wA x A n lim _ HX.out).mono ?_; rintro e w1 ⟨⟨bO, tO, rfl, hT, hTA⟩, B1⟩
                         have HO1 := hidp hT
                         have HX1 := hidp (HX.out.below B1)
                         have HU1 := hidp (HU.out.below B1)
                         have HW1 := hidp (HW.out.trans (B1.mono HW.out.size))
                         have HB1 := hidp (HB.out.trans (B1.mono HB.out.size))
                         have HK1 := hidp (heap_below B1 K0.out (ltOf K0.out))
                         clear hT B1 HX HU HW HB K0)
  subst hTA
  have c0 := cellOf HK1.out 0 (v := .slice u.ga u.gn u.gc) rfl
  go_wp2
  clear c0
  go_loopw [8, 18] (fun xx i wr => ∃ (j b' : Nat) (t' : Tr) (m : Int), j ≤ u.gn ∧ xx = .pointer (some ⟨b', 0, none⟩) ∧ i = .int .i64 j ∧ Hid (ULoop wA w1 tO.ab n u.gone j b' t' m wr)) (fun _ i _ => u.gn - (intOf i).toNat)
  case atStart => exact ⟨0, bO, tO, n, by omega, rfl, rfl, Below.refl _ _, HO1.out, rfl, by omega, Int.le_refl _⟩
  case round =>
    obtain ⟨j, b', t', m, hj, rfl, rfl, HL⟩ := hrel
    by_cases hlt : j < u.gn
    · have l1 : (j : Int) < (u.gn : Int) := by omega
      have hG := HU1.out.gone.below HL.out.bel
      obtain ⟨ad, o, ea, hrw⟩ := hG.row (by omega)
      have hjl : j < u.gone.length := by rw [hG.2.1]; exact hlt
      obtain ⟨c0, c1⟩ := hrw j hjl
      have hok := hG.2.2 _ (List.getElem_mem hjl)
      have hdr : u.gone.drop j = u.gone[j] :: u.gone.drop (j + 1) := List.drop_eq_getElem_cons hjl
      generalize u.gone[j] = p at *
      have hrl : delL tO.ab n u.gone = if (getA t'.ab p).2 = true then delL (delA t'.ab p) (m - 1) (u.gone.drop (j + 1)) else delL t'.ab m (u.gone.drop (j + 1)) := by rw [← HL.out.rel, hdr, delL]
      rw [← getT_ab] at hrl
      have HBD := hidp (show -9223372036854775807 ≤ m ∧ m < 9223372036854775808 by have := HL.out.lo; have := HL.out.hi; omega)
      have HDT := hidp (fun W h => tdel_any wA b' t' m p hok W h HBD.out.1 HBD.out.2)
      have hpv : p.val = .agg #[.int .u32 (p.a : Int), .int .i64 p.l] := rfl
      rw [hpv] at HDT
      obtain ⟨A2, m2, hA2, hm2⟩ : ∃ A2 m2, (if (getT t' p).2 = true then delA t'.ab p else t'.ab) = A2 ∧ (if (getT t' p).2 = true then m - 1 else m) = m2 := ⟨_, _, rfl, rfl⟩
      rw [hA2, hm2] at HDT
      have hrl2 : delL A2 m2 (u.gone.drop (j + 1)) = delL tO.ab n u.gone := by
        rw [hrl, ← hA2, ← hm2]
        split <;> rfl
      have HRL := hidp hrl2
      have HM2 := hidp (show m - 1 ≤ m2 ∧ m2 ≤ m by rw [← hm2]; split <;> omega)
      generalize (getT t' p).2 = ok at HDT
      clear hA2 hm2 hrl hrl2 hdr hok hpv hG hrw
      have HB2 := hidp ((Below.refl wr.heap.size wr).alloc (Nat.le_refl _) (.cells #[.int .u32 (p.a : Int), .int .i64 p.l] 44))
      have HK2 := hidp (heap_alloc_new wr (.cells #[.int .u32 (p.a : Int), .int .i64 p.l] 44))
      have HEA := hidp ea
      generalize hsl : u.ga = ga at *
      subst ea
      go_upto_region 6 with (fail)
      have hL2 := HL.out.below HB2.out
      change Code.wp Try.prog _ _ _ (wr.alloc (.cells #[.int .u32 (p.a : Int), .int .i64 p.l] 44))
      generalize wr.alloc (.cells #[.int .u32 (p.a : Int), .int .i64 p.l] 44) = w2 at *
      have d0 := cellOf HK2.out 0 (v := .int .u32 (p.a : Int)) rfl
      have d1 := cellOf HK2.out 1 (v := .int .i64 p.l) rfl
      have HL2 := hidp hL2
      clear hL2 c0 c1
      go_wp2_with (go_at_call 26; refine (HDT.out _ HL2.out.trie).mono ?_; rintro e w3 ⟨⟨b3, rfl, hG⟩, B3⟩
                   have HL3 := hidp (HL2.out.below B3)
                   have HG3 := hidp hG
                   clear hG B3 d0 d1)
      obtain ⟨b7, t7, h1, h2, h3, h4⟩ := HG3.out
      cases h1
      have H7 := hidp (And.intro h3 h4)
      clear h2 h3 h4 HG3
      go_roundw
      case rel => exact ⟨j + 1, b7, t7, m2, by omega, rfl, by go_num, HL3.out.bel, H7.out.1, by rw [H7.out.2]; exact HRL.out, by have := HL3.out.lo; have := HM2.out; omega, by have := HL3.out.hi; have := HM2.out; omega⟩
      case measure => simp [intOf]; omega
    · have l1 : ¬ (j : Int) < (u.gn : Int) := by omega
      obtain rfl : j = u.gn := by omega
      have hrel := HL.out.rel
      rw [List.drop_of_length_le (by rw [HU1.out.gone.2.1]; omega)] at hrel
      have hrel' : delL tO.ab n u.gone = (t'.ab, m) := hrel.symm
      obtain ⟨A2, n2, ov, hr⟩ : ∃ A2 n2 ov, putL u.att lim t'.ab m u.news = (A2, n2, ov) := ⟨_, _, _, rfl⟩
      have hup : updA tO.ab n lim u = (A2, n2, ov) := by unfold updA; rw [hrel']; exact hr
      have HUP := hidp hup
      obtain ⟨w8, rfl⟩ : ∃ w8, w8 = wr := ⟨_, rfl⟩
      have HX8 := hidp (HX1.out.below HL.out.bel)
      have HO8 := hidp (HO1.out.below HL.out.bel)
      have HU8 := hidp (HU1.out.below HL.out.bel)
      have HK8 := hidp (heap_below HL.out.bel HK1.out (ltOf HK1.out))
      have HB8 := hidp (HB1.out.trans (HL.out.bel.mono HB1.out.size))
      have HW8 := hidp (HW1.out.trans (HL.out.bel.mono HW1.out.size))
      have HPU8 := hidp (fun W (hW : Below w8.heap.size w8 W) => rput_any wA b' t' m u.na u.nn u.nc u.news u.att huA lim W (HL.out.trie.below hW) (HU8.out.news.below hW) (by have := HL.out.lo; omega) (by have := HL.out.hi; omega) (by omega))
      rw [hr] at HPU8
      have hvv : u.att.val = .agg u.att.cells.toArray := rfl
      rw [hvv] at HPU8
      clear hrel hrel' hr hup hvv HL HX1 HO1 HU1 HK1 HB1 HW1
      go_upto_region 8 with (fail)
      refine wp_region_flowH (G := Option Addr) (fun g iqv => ([(.pointer (some ⟨b', 0, none⟩) : Value), (.pointer (some ⟨w.heap.size, 12, none⟩) : Value), (.slice u.na u.nn u.nc : Value), (.pointer (some ⟨w.heap.size, 1, none⟩) : Value), (.agg u.att.cells.toArray : Value), (.pointer x : Value), (.int .i64 lim : Value), (.tuple #[.pointer g, .bool ov] : Value), (.tuple #[.pointer g, .bool ov] : Value), (.pointer g : Value), (.bool ov : Value), (.pointer g : Value), (.bool ov : Value)] : List Value).getD iqv undef) (fun d g W => Below w8.heap.size w8 W ∧ (d 7 = true → PutG wA A2 n2 g W)) (none) (fun g => [(some 30, .pointer (some ⟨b', 0, none⟩)), (some 31, .pointer (some ⟨w.heap.size, 12, none⟩)), (some 32, .slice u.na u.nn u.nc), (some 33, .pointer (some ⟨w.heap.size, 1, none⟩)), (some 34, .agg u.att.cells.toArray), (some 35, .pointer x), (some 36, .int .i64 lim), (some 37, .tuple #[.pointer g, .bool ov]), (some 29, .tuple #[.pointer g, .bool ov]), (some 38, .pointer g), (some 39, .bool ov), (some 8, .pointer g), (some 11, .bool ov)]) (by kernel_rfl) (by kernel_rfl) ⟨(Below.refl _ _).drew, fun h => (by cases h)⟩ (fun iq hiq => ?_) (fun g => by kernel_rfl) (fun d g W hall hJ => ?_)
      · match iq, hiq with
        | 0, _ =>
          intro d g aq W hdi hw hcl hJ hf hbd
          have v8 : aq.tmps[8]? = some (.pointer (some ⟨b', 0, none⟩)) := (hbd.but 8 11 (by kernel_rfl) (by cases hq : d 11 with | false => rfl | true => exact absurd ((hcl 7 (hcl 8 (hcl 9 (hcl 11 hq 9 (by kernel_rfl)) 8 (by kernel_rfl)) 7 (by kernel_rfl)) 0 (by kernel_rfl)).symm.trans hdi) (by decide))).trans rfl
          clear hf hbd
          refine wpOp_flow rfl (by rfl) (fun Kq hK => ?_)
          go_simp
          exact hK _ _ ⟨g, rfl, hJ, fun _ _ => rfl⟩
        | 1, _ =>
          intro d g aq W hdi hw hcl hJ hf hbd
          have v3 : aq.tmps[3]? = some (.pointer (some ⟨w.heap.size, 0, none⟩)) := (hf.at_base 3 (by kernel_rfl)).trans rfl
          clear hf hbd
          refine wpOp_flow rfl (by rfl) (fun Kq hK => ?_)
          go_simp
          exact hK _ _ ⟨g, rfl, hJ, fun _ _ => rfl⟩
        | 2, _ =>
          intro d g aq W hdi hw hcl hJ hf hbd
          have v31 : aq.tmps[31]? = some (.pointer (some ⟨w.heap.size, 12, none⟩)) := hf.val 1 31 (by kernel_rfl) rfl
          clear hf hbd
          refine wpOp_flow rfl (by rfl) (fun Kq hK => ?_)
          have k12 := cellOf (heap_below hJ.1 HK8.out (ltOf HK8.out)) 12 (v := .slice u.na u.nn u.nc) rfl
          go_simp
          exact hK _ _ ⟨g, rfl, hJ, fun _ _ => rfl⟩
        | 3, _ =>
          intro d g aq W hdi hw hcl hJ hf hbd
          have v3 : aq.tmps[3]? = some (.pointer (some ⟨w.heap.size, 0, none⟩)) := (hf.at_base 3 (by kernel_rfl)).trans rfl
          clear hf hbd
          refine wpOp_flow rfl (by rfl) (fun Kq hK => ?_)
          go_simp
          exact hK _ _ ⟨g, rfl, hJ, fun _ _ => rfl⟩
        | 4, _ =>
          intro d g aq W hdi hw hcl hJ hf hbd
          have v33 : aq.tmps[33]? = some (.pointer (some ⟨w.heap.size, 1, none⟩)) := hf.val 3 33 (by kernel_rfl) rfl
          clear hf hbd
          refine wpOp_flow rfl (by rfl) (fun Kq hK => ?_)
          refine wp_load_mid 37 (.tmp 33) rfl w.heap.size 1 (eval_of v33) u.att.cells _ (upd_att (o := 0) (range_of (heap_below hJ.1 HK8.out (ltOf HK8.out)))) Try.underlying37 rfl Try.info37 (hK _ _ ⟨g, rfl, hJ, fun _ _ => rfl⟩)
        | 5, _ =>
          intro d g aq W hdi hw hcl hJ hf hbd
          have v0 : aq.tmps[0]? = some (.pointer x) := (hf.at_base 0 (by kernel_rfl)).trans rfl
          clear hf hbd
          refine wpOp_flow rfl (by rfl) (fun Kq hK => ?_)
          go_simp
          exact hK _ _ ⟨g, rfl, hJ, fun _ _ => rfl⟩
        | 6, _ =>
          intro d g aq W hdi hw hcl hJ hf hbd
          have v35 : aq.tmps[35]? = some (.pointer x) := hf.val 5 35 (by kernel_rfl) rfl
          clear hf hbd
          refine wpOp_flow rfl (by rfl) (fun Kq hK => ?_)
          go_simp
          refine (limit_any wA x _ n lim W (HX8.out.below hJ.1)).mono ?_
          rintro e w19 ⟨rfl, rfl⟩
          exact hK _ _ ⟨g, rfl, hJ, fun _ _ => rfl⟩
        | 7, _ =>
          intro d g aq W hdi hw hcl hJ hf hbd
          have v30 : aq.tmps[30]? = some (.pointer (some ⟨b', 0, none⟩)) := hf.val 0 30 (by kernel_rfl) rfl
          have v32 : aq.tmps[32]? = some (.slice u.na u.nn u.nc) := hf.val 2 32 (by kernel_rfl) rfl
          have v34 : aq.tmps[34]? = some (.agg u.att.cells.toArray) := hf.val 4 34 (by kernel_rfl) rfl
          have v36 : aq.tmps[36]? = some (.int .i64 lim) := hf.val 6 36 (by kernel_rfl) rfl
          clear hf hbd
          refine wpOp_flow rfl (by rfl) (fun Kq hK => ?_)
          go_simp
          refine (HPU8.out W hJ.1).mono ?_
          rintro e w19 ⟨⟨b, t, rfl, h1, h2⟩, B19⟩
          exact hK _ _ ⟨some ⟨b, 0, none⟩, rfl, ⟨hJ.1.trans (B19.mono hJ.1.size), fun _ => ⟨b, t, rfl, h1, h2⟩⟩, (fun j hj => match j, hj with | 0, _ => rfl | 1, _ => rfl | 2, _ => rfl | 3, _ => rfl | 4, _ => rfl | 5, _ => rfl | 6, _ => rfl | 7, hj => absurd (hj.symm.trans hdi) (by decide) | 8, hj => absurd ((hcl 8 hj 7 (by kernel_rfl)).symm.trans hdi) (by decide) | 9, hj => absurd ((hcl 8 (hcl 9 hj 8 (by kernel_rfl)) 7 (by kernel_rfl)).symm.trans hdi) (by decide) | 10, _ => rfl | 11, hj => absurd ((hcl 8 (hcl 9 (hcl 11 hj 9 (by kernel_rfl)) 8 (by kernel_rfl)) 7 (by kernel_rfl)).symm.trans hdi) (by decide) | 12, _ => rfl | _ + 13, _ => rfl)⟩
        | 8, _ =>
          intro d g aq W hdi hw hcl hJ hf hbd
          have v37 : aq.tmps[37]? = some (.tuple #[.pointer g, .bool ov]) := hf.val 7 37 (by kernel_rfl) rfl
          clear hf hbd
          refine wpOp_flow rfl (by rfl) (fun Kq hK => ?_)
          go_simp
          exact hK _ _ ⟨g, rfl, hJ, fun _ _ => rfl⟩
        | 9, _ =>
          intro d g aq W hdi hw hcl hJ hf hbd
          have v29 : aq.tmps[29]? = some (.tuple #[.pointer g, .bool ov]) := hf.val 8 29 (by kernel_rfl) rfl
          clear hf hbd
          refine wpOp_flow rfl (by rfl) (fun Kq hK => ?_)
          go_simp
          exact hK _ _ ⟨g, rfl, hJ, fun _ _ => rfl⟩
        | 10, _ =>
          intro d g aq W hdi hw hcl hJ hf hbd
          have v29 : aq.tmps[29]? = some (.tuple #[.pointer g, .bool ov]) := hf.val 8 29 (by kernel_rfl) rfl
          clear hf hbd
          refine wpOp_flow rfl (by rfl) (fun Kq hK => ?_)
          go_simp
          exact hK _ _ ⟨g, rfl, hJ, fun _ _ => rfl⟩
        | 11, _ =>
          intro d g aq W hdi hw hcl hJ hf hbd
          have v38 : aq.tmps[38]? = some (.pointer g) := hf.val 9 38 (by kernel_rfl) rfl
          clear hf hbd
          refine wpOp_flow rfl (by rfl) (fun Kq hK => ?_)
          go_simp
          exact hK _ _ ⟨g, rfl, hJ, fun _ _ => rfl⟩
        | 12, _ =>
          intro d g aq W hdi hw hcl hJ hf hbd
          have v39 : aq.tmps[39]? = some (.bool ov) := hf.val 10 39 (by kernel_rfl) rfl
          clear hf hbd
          refine wpOp_flow rfl (by rfl) (fun Kq hK => ?_)
          go_simp
          exact hK _ _ ⟨g, rfl, hJ, fun _ _ => rfl⟩
        | kq + 13, hk => exact absurd hk (by first | omega | (intro h; simp at h; omega))
      · simp only [puts, Act.put, List.setIfInBounds_toArray, List.set_cons_zero, List.set_cons_succ]
        obtain ⟨b2, t2, rfl, h2, h3⟩ := hJ.2 (hall 7 (by decide))
        obtain ⟨w9, rfl⟩ : ∃ w9, w9 = W := ⟨_, rfl⟩
        subst h3
        have HT9 := hidp h2
        have B9 := hidp hJ.1
        have HX9 := hidp (HX8.out.below hJ.1)
        have HO9 := hidp (HO8.out.below hJ.1)
        have HU9 := hidp (HU8.out.below hJ.1)
        have HK9 := hidp (heap_below hJ.1 HK8.out (ltOf HK8.out))
        have HB9 := hidp (HB8.out.trans (hJ.1.mono HB8.out.size))
        have HW9 := hidp (HW8.out.trans (hJ.1.mono HW8.out.size))
        clear h2 hJ hall HX8 HO8 HU8 HK8 HB8 HW8 HPU8
        go_upto_region 9 with (fail)
        refine wp_region_flowG (G := Option Addr × Value × Value × Value) (fun g iqv => ([(.pointer (some ⟨b2, 0, none⟩) : Value), (.pointer x : Value), (.int .i64 lim : Value), (.agg #[.pointer (some ⟨b2, 0, none⟩), .int .i64 lim] : Value), (.pointer g.1 : Value), (.pointer (some ⟨bO, 0, none⟩) : Value), (.pointer (some ⟨b2, 0, none⟩) : Value), (.pointer (some ⟨w.heap.size, 0, none⟩) : Value), (.slice u.ga u.gn u.gc : Value), (g.2.1 : Value), (.pointer (some ⟨w.heap.size, 12, none⟩) : Value), (.slice u.na u.nn u.nc : Value), (g.2.2.1 : Value), (g.2.2.2 : Value), (.bool ov : Value), (.pointer g.1 : Value), (g.2.2.2 : Value), (.bool ov : Value)] : List Value).getD iqv undef) (fun d g W => UB w9 b2 lim u (otherA tO.ab t2.ab) (d 4) (d 9) (d 12) (d 13) g W) ((none, undef, undef, undef)) (fun g => [(some 40, .pointer (some ⟨b2, 0, none⟩)), (some 41, .pointer x), (some 42, .int .i64 lim), (some 43, .agg #[.pointer (some ⟨b2, 0, none⟩), .int .i64 lim]), (some 44, .pointer g.1), (some 45, .pointer (some ⟨bO, 0, none⟩)), (some 46, .pointer (some ⟨b2, 0, none⟩)), (some 47, .pointer (some ⟨w.heap.size, 0, none⟩)), (some 48, .slice u.ga u.gn u.gc), (some 49, g.2.1), (some 50, .pointer (some ⟨w.heap.size, 12, none⟩)), (some 51, .slice u.na u.nn u.nc), (some 52, g.2.2.1), (some 53, g.2.2.2), (some 54, .bool ov), (some 4, .pointer g.1), (some 5, g.2.2.2), (some 6, .bool ov)]) (by kernel_rfl) (by kernel_rfl) ⟨(Below.refl _ _).drew, (fun h => by cases h), (fun h => by cases h), (fun h => by cases h), (fun h => by cases h)⟩ (fun iq hiq => ?_) (fun g => by kernel_rfl) (fun d g W hall hJ => ?_)
        · match iq, hiq with
          | 0, _ =>
            intro d g aq W hdi hw hcl hJ hf
            have v8 : aq.tmps[8]? = some (.pointer (some ⟨b2, 0, none⟩)) := (hf.at_base 8 (by kernel_rfl)).trans rfl
            clear hf
            refine wpOp_flow rfl (by rfl) (fun Kq hK => ?_)
            go_simp
            exact hK _ _ ⟨g, rfl, hJ, fun _ _ => rfl⟩
          | 1, _ =>
            intro d g aq W hdi hw hcl hJ hf
            have v0 : aq.tmps[0]? = some (.pointer x) := (hf.at_base 0 (by kernel_rfl)).trans rfl
            clear hf
            refine wpOp_flow rfl (by rfl) (fun Kq hK => ?_)
            go_simp
            exact hK _ _ ⟨g, rfl, hJ, fun _ _ => rfl⟩
          | 2, _ =>
            intro d g aq W hdi hw hcl hJ hf
            have v41 : aq.tmps[41]? = some (.pointer x) := hf.val 1 41 (by kernel_rfl) rfl
            clear hf
            refine wpOp_flow rfl (by rfl) (fun Kq hK => ?_)
            go_simp
            refine (limit_any wA x _ n lim W (HX9.out.below hJ.bel)).mono ?_
            rintro e w19 ⟨rfl, rfl⟩
            exact hK _ _ ⟨g, rfl, hJ, fun _ _ => rfl⟩
          | 3, _ =>
            intro d g aq W hdi hw hcl hJ hf
            have v40 : aq.tmps[40]? = some (.pointer (some ⟨b2, 0, none⟩)) := hf.val 0 40 (by kernel_rfl) rfl
            have v42 : aq.tmps[42]? = some (.int .i64 lim) := hf.val 2 42 (by kernel_rfl) rfl
            clear hf
            refine wpOp_flow rfl (by rfl) (fun Kq hK => ?_)
            go_simp
            exact hK _ _ ⟨g, rfl, hJ, fun _ _ => rfl⟩
          | 4, _ =>
            intro d g aq W hdi hw hcl hJ hf
            have v43 : aq.tmps[43]? = some (.agg #[.pointer (some ⟨b2, 0, none⟩), .int .i64 lim]) := hf.val 3 43 (by kernel_rfl) rfl
            clear hf
            refine wpOp_flow rfl (by rfl) (fun Kq hK => ?_)
            go_simp
            exact hK _ _ ⟨(some ⟨W.heap.size, 0, none⟩, g.2), rfl, hJ.s4, (fun j hj => match j, hj with | 0, _ => rfl | 1, _ => rfl | 2, _ => rfl | 3, _ => rfl | 4, hj => absurd (hj.symm.trans hdi) (by decide) | 5, _ => rfl | 6, _ => rfl | 7, _ => rfl | 8, _ => rfl | 9, _ => rfl | 10, _ => rfl | 11, _ => rfl | 12, _ => rfl | 13, _ => rfl | 14, _ => rfl | 15, hj => absurd ((hcl 15 hj 4 (by kernel_rfl)).symm.trans hdi) (by decide) | 16, _ => rfl | 17, _ => rfl | _ + 18, _ => rfl)⟩
          | 5, _ =>
            intro d g aq W hdi hw hcl hJ hf
            have v7 : aq.tmps[7]? = some (.pointer (some ⟨bO, 0, none⟩)) := (hf.at_base 7 (by kernel_rfl)).trans rfl
            clear hf
            refine wpOp_flow rfl (by rfl) (fun Kq hK => ?_)
            go_simp
            exact hK _ _ ⟨g, rfl, hJ, fun _ _ => rfl⟩
          | 6, _ =>
            intro d g aq W hdi hw hcl hJ hf
            have v8 : aq.tmps[8]? = some (.pointer (some ⟨b2, 0, none⟩)) := (hf.at_base 8 (by kernel_rfl)).trans rfl
            clear hf
            refine wpOp_flow rfl (by rfl) (fun Kq hK => ?_)
            go_simp
            exact hK _ _ ⟨g, rfl, hJ, fun _ _ => rfl⟩
          | 7, _ =>
            intro d g aq W hdi hw hcl hJ hf
            have v3 : aq.tmps[3]? = some (.pointer (some ⟨w.heap.size, 0, none⟩)) := (hf.at_base 3 (by kernel_rfl)).trans rfl
            clear hf
            refine wpOp_flow rfl (by rfl) (fun Kq hK => ?_)
            go_simp
            exact hK _ _ ⟨g, rfl, hJ, fun _ _ => rfl⟩
          | 8, _ =>
            intro d g aq W hdi hw hcl hJ hf
            have v47 : aq.tmps[47]? = some (.pointer (some ⟨w.heap.size, 0, none⟩)) := hf.val 7 47 (by kernel_rfl) rfl
            clear hf
            refine wpOp_flow rfl (by rfl) (fun Kq hK => ?_)
            have k0 := cellOf (heap_below hJ.bel HK9.out (ltOf HK9.out)) 0 (v := .slice u.ga u.gn u.gc) rfl
            go_simp
            exact hK _ _ ⟨g, rfl, hJ, fun _ _ => rfl⟩
          | 9, _ =>
            intro d g aq W hdi hw hcl hJ hf
            have v48 : aq.tmps[48]? = some (.slice u.ga u.gn u.gc) := hf.val 8 48 (by kernel_rfl) rfl
            clear hf
            refine wpOp_flow rfl (by rfl) (fun Kq hK => ?_)
            go_simp
            refine (clone_any u.ga u.gn u.gc u.gone W (HU9.out.gone.below hJ.bel) (by omega)).mono ?_
            rintro e w19 ⟨⟨vq, rfl, hq⟩, B19⟩
            exact hK _ _ ⟨(g.1, vq, g.2.2), rfl, hJ.s9 hq B19, (fun j hj => match j, hj with | 0, _ => rfl | 1, _ => rfl | 2, _ => rfl | 3, _ => rfl | 4, _ => rfl | 5, _ => rfl | 6, _ => rfl | 7, _ => rfl | 8, _ => rfl | 9, hj => absurd (hj.symm.trans hdi) (by decide) | 10, _ => rfl | 11, _ => rfl | 12, _ => rfl | 13, _ => rfl | 14, _ => rfl | 15, _ => rfl | 16, _ => rfl | 17, _ => rfl | _ + 18, _ => rfl)⟩
          | 10, _ =>
            intro d g aq W hdi hw hcl hJ hf
            have v3 : aq.tmps[3]? = some (.pointer (some ⟨w.heap.size, 0, none⟩)) := (hf.at_base 3 (by kernel_rfl)).trans rfl
            clear hf
            refine wpOp_flow rfl (by rfl) (fun Kq hK => ?_)
            go_simp
            exact hK _ _ ⟨g, rfl, hJ, fun _ _ => rfl⟩
          | 11, _ =>
            intro d g aq W hdi hw hcl hJ hf
            have v50 : aq.tmps[50]? = some (.pointer (some ⟨w.heap.size, 12, none⟩)) := hf.val 10 50 (by kernel_rfl) rfl
            clear hf
            refine wpOp_flow rfl (by rfl) (fun Kq hK => ?_)
            have k12 := cellOf (heap_below hJ.bel HK9.out (ltOf HK9.out)) 12 (v := .slice u.na u.nn u.nc) rfl
            go_simp
            exact hK _ _ ⟨g, rfl, hJ, fun _ _ => rfl⟩
          | 12, _ =>
            intro d g aq W hdi hw hcl hJ hf
            have v49 : aq.tmps[49]? = some (g.2.1) := hf.val 9 49 (by kernel_rfl) rfl
            have v51 : aq.tmps[51]? = some (.slice u.na u.nn u.nc) := hf.val 11 51 (by kernel_rfl) rfl
            clear hf
            refine wpOp_flow rfl (by rfl) (fun Kq hK => ?_)
            have h13 : d 13 = false := (by cases hq : d 13 with | false => rfl | true => exact absurd ((hcl 13 hq 12 (by kernel_rfl)).symm.trans hdi) (by decide))
            have hown := hJ.cl (hw 9 (by kernel_rfl)) hdi
            have hnw := HU9.out.news.below hJ.bel
            refine wp_append_src (.tmp 49) (.tmp 51) 29 rfl w9.heap.size 44 i0 zero44v 2 16 Try.underlying29 hi0 hz0 hz1 hz2 rfl (by omega) g.2.1 u.gn _ (eval_of v49) hown u.na u.nn u.nc (u.news.flatMap Pf.cells) (eval_of v51) (by rw [pfs_len, hnw.2.1]) hnw.src (pfs_one u.news) (by simp only [maxLen]; omega) (by omega) hJ.bel.size ?_
            intro v1 w19 hown1 hg1
            exact hK _ _ ⟨(g.1, g.2.1, v1, g.2.2.2), rfl, hJ.s12 (hw 9 (by kernel_rfl)) hdi h13 HU9.out.gone HU9.out.news hown1 hg1, (fun j hj => match j, hj with | 0, _ => rfl | 1, _ => rfl | 2, _ => rfl | 3, _ => rfl | 4, _ => rfl | 5, _ => rfl | 6, _ => rfl | 7, _ => rfl | 8, _ => rfl | 9, _ => rfl | 10, _ => rfl | 11, _ => rfl | 12, hj => absurd (hj.symm.trans hdi) (by decide) | 13, _ => rfl | 14, _ => rfl | 15, _ => rfl | 16, _ => rfl | 17, _ => rfl | _ + 18, _ => rfl)⟩
          | 13, _ =>
            intro d g aq W hdi hw hcl hJ hf
            have v45 : aq.tmps[45]? = some (.pointer (some ⟨bO, 0, none⟩)) := hf.val 5 45 (by kernel_rfl) rfl
            have v46 : aq.tmps[46]? = some (.pointer (some ⟨b2, 0, none⟩)) := hf.val 6 46 (by kernel_rfl) rfl
            have v52 : aq.tmps[52]? = some (g.2.2.1) := hf.val 12 52 (by kernel_rfl) rfl
            clear hf
            refine wpOp_flow rfl (by rfl) (fun Kq hK => ?_)
            obtain ⟨a52, c52, e52, h52⟩ := hJ.app (hw 12 (by kernel_rfl))
            rw [e52] at v52
            go_simp
            refine (differ_any H45 wA bO b2 tO t2 _ _ a52 _ c52 _ W (HO9.out.below hJ.bel) (HT9.out.below hJ.bel) h52 (by omega) (HW9.out.trans (hJ.bel.mono HW9.out.size))).mono ?_
            rintro e w19 ⟨h19, B19⟩
            obtain ⟨a53, c53, rfl, h53⟩ := h19
            exact hK _ _ ⟨(g.1, g.2.1, g.2.2.1, .slice a53 _ c53), rfl, hJ.s13 ⟨a53, c53, rfl, h53⟩ B19, (fun j hj => match j, hj with | 0, _ => rfl | 1, _ => rfl | 2, _ => rfl | 3, _ => rfl | 4, _ => rfl | 5, _ => rfl | 6, _ => rfl | 7, _ => rfl | 8, _ => rfl | 9, _ => rfl | 10, _ => rfl | 11, _ => rfl | 12, _ => rfl | 13, hj => absurd (hj.symm.trans hdi) (by decide) | 14, _ => rfl | 15, _ => rfl | 16, hj => absurd ((hcl 16 hj 13 (by kernel_rfl)).symm.trans hdi) (by decide) | 17, _ => rfl | _ + 18, _ => rfl)⟩
          | 14, _ =>
            intro d g aq W hdi hw hcl hJ hf
            have v11 : aq.tmps[11]? = some (.bool ov) := (hf.at_base 11 (by kernel_rfl)).trans rfl
            clear hf
            refine wpOp_flow rfl (by rfl) (fun Kq hK => ?_)
            go_simp
            exact hK _ _ ⟨g, rfl, hJ, fun _ _ => rfl⟩
          | 15, _ =>
            intro d g aq W hdi hw hcl hJ hf
            have v44 : aq.tmps[44]? = some (.pointer g.1) := hf.val 4 44 (by kernel_rfl) rfl
            clear hf
            refine wpOp_flow rfl (by rfl) (fun Kq hK => ?_)
            go_simp
            exact hK _ _ ⟨g, rfl, hJ, fun _ _ => rfl⟩
          | 16, _ =>
            intro d g aq W hdi hw hcl hJ hf
            have v53 : aq.tmps[53]? = some (g.2.2.2) := hf.val 13 53 (by kernel_rfl) rfl
            clear hf
            refine wpOp_flow rfl (by rfl) (fun Kq hK => ?_)
            go_simp
            exact hK _ _ ⟨g, rfl, hJ, fun _ _ => rfl⟩
          | 17, _ =>
            intro d g aq W hdi hw hcl hJ hf
            have v54 : aq.tmps[54]? = some (.bool ov) := hf.val 14 54 (by kernel_rfl) rfl
            clear hf
            refine wpOp_flow rfl (by rfl) (fun Kq hK => ?_)
            go_simp
            exact hK _ _ ⟨g, rfl, hJ, fun _ _ => rfl⟩
          | kq + 18, hk => exact absurd hk (by first | omega | (intro h; simp at h; omega))
        · simp only [puts, Act.put, List.setIfInBounds_toArray, List.set_cons_zero, List.set_cons_succ]
          obtain ⟨b4, h40, h41⟩ := hJ.box (hall 4 (by decide))
          obtain ⟨a5, c5, h50, h51, -, -⟩ := hJ.dif (hall 13 (by decide))
          obtain ⟨g1, g2, g3, g4⟩ := g
          have h40' : g1 = some ⟨b4, 0, none⟩ := h40
          have h50' : g4 = .slice a5 (diffL (otherA tO.ab t2.ab) (u.gone ++ u.news)).length c5 := by injection h50
          subst h40' h50'
          have HR := hidp (And.intro h41 (And.intro h51 (And.intro (HT9.out.below hJ.bel) (HB9.out.trans (hJ.bel.mono HB9.out.size)))))
          clear hJ hall h41 h51 h40 h50
          go_wp2
          go_ret3
          rw [HUP.out]
          exact ⟨⟨b4, a5, c5, rfl, .inr ⟨b4, b2, t2, rfl, HR.out.1, HR.out.2.2.1, rfl⟩, HR.out.2.1⟩, HR.out.2.2.2⟩
end Go.Proofs.Ytnenpfalhbbadaa
