/- A trie: Put, Del. -/
import Derived.Test.YtnenpfalhbbadaaPE
import Derived.Test.YtnenpfalhbbadaaFlowG
namespace Go.Proofs.Ytnenpfalhbbadaa
open Go.RowKit

def Tr.addr : Tr → Option Addr
  | .nil => none
  | .node b _ _ _ _ _ => some ⟨b, 0, none⟩
theorem Tr.ptr_addr (t : Tr) : t.ptr = .pointer t.addr := by cases t <;> rfl
/-- a tree that was made, and a trie of it -/
def TrO (wA : World) (A : Ab) (r : Option Addr) (W : World) : Prop := ∃ t' : Tr, r = t'.addr ∧ t'.at wA W ∧ t'.ab = A
def TrG (wA w : World) (A : Ab) (n : Int) (r : Option Addr) (W : World) : Prop := ∃ (b' : Nat) (t' : Tr), r = some ⟨b', 0, none⟩ ∧ w.heap.size ≤ b' ∧ TrieAt wA W b' t' n ∧ t'.ab = A
theorem TrG.below {wA w W W' : World} {A : Ab} {n : Int} {r : Option Addr} (h : TrG wA w A n r W) (hB : Below W.heap.size W W') : TrG wA w A n r W' := by
  obtain ⟨b', t', h1, h2, h3, h4⟩ := h
  exact ⟨b', t', h1, h2, h3.below hB, h4⟩
def TrJ (wA w : World) (S : World → Prop) (A : Ab) (n : Int) (k1 k2 : Bool) (g : Option Addr × Option Addr) (W : World) : Prop :=
  S W ∧ (k1 = true → TrO wA A g.1 W) ∧ (k2 = true → TrG wA w A n g.2 W)
structure PutT (wA w : World) (p : Pf) (v : Att) (b : Nat) (t : Tr) (n : Int) (W : World) : Prop where
  bel : Below w.heap.size w W
  box : W.heap[w.heap.size]? = some (.cells #[.int .u32 (p.a : Int), .int .i64 p.l] 44 (0, 0))
  att : W.heap[w.heap.size + 1]? = some (.cells v.cells.toArray 37 (0, 0))
  trie : TrieAt wA W b t n
theorem PutT.below {wA w W W' : World} {p : Pf} {v : Att} {b : Nat} {t : Tr} {n : Int} (h : PutT wA w p v b t n W) (hB : Below W.heap.size W W') : PutT wA w p v b t n W' :=
  ⟨h.bel.trans (hB.mono h.bel.size), heap_below hB h.box (ltOf h.box), heap_below hB h.att (ltOf h.att), h.trie.below hB⟩
structure DelT (wA w : World) (p : Pf) (b : Nat) (t : Tr) (n : Int) (W : World) : Prop where
  bel : Below w.heap.size w W
  box : W.heap[w.heap.size]? = some (.cells #[.int .u32 (p.a : Int), .int .i64 p.l] 44 (0, 0))
  trie : TrieAt wA W b t n
theorem DelT.below {wA w W W' : World} {p : Pf} {b : Nat} {t : Tr} {n : Int} (h : DelT wA w p b t n W) (hB : Below W.heap.size W W') : DelT wA w p b t n W' :=
  ⟨h.bel.trans (hB.mono h.bel.size), heap_below hB h.box (ltOf h.box), h.trie.below hB⟩
theorem getT_find {t : Tr} {p : Pf} (h : (getT t p).2 = true) : (findT t p).ab ≠ .nil := by
  unfold getT at h
  split at h
  · rename_i e
    rw [e]
    intro h
    cases h
  · cases h
theorem trie_new {wA W : World} {t' : Tr} {n : Int} {o : Option Addr} (ho : o = t'.addr) (ht : t'.at wA W) : TrieAt wA (W.alloc (.cells #[.pointer o, .int .i64 n] 76)) W.heap.size t' n :=
  ⟨by rw [Tr.ptr_addr, ← ho]; exact heap_alloc_new _ _, ht.below ((Below.refl W.heap.size W).alloc (Nat.le_refl _) _)⟩

set_option maxRecDepth 100000 in
set_option maxHeartbeats 4000000 in
theorem tput_any (wA : World) (b : Nat) (t : Tr) (n : Int) (p : Pf) (hp : p.ok) (hr : rightF p = true) (v : Att) (hv : v.at wA) (w : World) (h : TrieAt wA w b t n) (hn0 : -9223372036854775807 ≤ n) (hn : (getT t p).2 = true ∨ n + 1 < 9223372036854775808) :
    Calls Try.prog 43 #[.pointer (some ⟨b, 0, none⟩), p.val, v.val] w fun e w' => (∃ b', e = .returned (.tuple #[.pointer (some b'), .int .i64 0]) ∧ TrG wA w (putA t.ab p v) (if (getT t p).2 = true then n else n + 1) (some b') w') ∧ Below w.heap.size w w' := by
  have hpv : p.val = .agg #[.int .u32 (p.a : Int), .int .i64 p.l] := rfl
  have hvv : v.val = .agg v.cells.toArray := rfl
  have h0 : PutT wA w p v b t n ((w.alloc (.cells #[.int .u32 (p.a : Int), .int .i64 p.l] 44)).alloc (.cells v.cells.toArray 37)) := by
    have hb := ((Below.refl w.heap.size w).alloc (Nat.le_refl _) (.cells #[.int .u32 (p.a : Int), .int .i64 p.l] 44)).alloc (by simp) (.cells v.cells.toArray 37)
    exact ⟨hb, heap_alloc_at (heap_alloc_new w _) _, heap_alloc_top _ _ _ (by simp), h.below hb⟩
  have H0 := hidp h0
  have HN := hidp (And.intro hn0 hn)
  have HV := hidp (And.intro hp hv)
  have HR := hidp (fun W => right_any p hp W)
  have HG := hidp (fun W h => tget_any wA b t n p hp W h)
  have HP := hidp (fun W h => put_any wA p hp v hv t W h)
  rw [hpv, hvv]
  rw [hpv] at HR HG
  rw [hr] at HR
  rw [hpv, hvv] at HP
  rw [Tr.ptr_addr] at HP
  clear hpv hvv h0 hn0 hn hp hv hr h
  have hlen : v.cells.length = 11 := rfl
  have hiv : Hid ((Try.prog.info? 37).map (·.size) = some v.cells.toArray.size) := Try.info37
  obtain ⟨a, ok, hgt⟩ : ∃ a ok, getT t p = (a, ok) := ⟨_, _, rfl⟩
  have hia : Hid ((Try.prog.info? 37).map (·.size) = some a.cells.toArray.size) := Try.info37
  have hav : a.val = .agg a.cells.toArray := rfl
  rw [hgt] at HN HG ⊢
  rw [hav] at HG
  clear hav
  have HGT := hidp hgt
  clear hgt
  go_enter Try.func43, Try.ntmps43
  go_upto_region 1 with (fail)
  change Code.wp Try.prog _ _ _ ((w.alloc (.cells #[.int .u32 (p.a : Int), .int .i64 p.l] 44)).alloc (.cells v.cells.toArray 37))
  generalize (w.alloc (.cells #[.int .u32 (p.a : Int), .int .i64 p.l] 44)).alloc (.cells v.cells.toArray 37) = w0 at *
  have d0 := cellOf H0.out.box 0 (v := .int .u32 (p.a : Int)) rfl
  have d1 := cellOf H0.out.box 1 (v := .int .i64 p.l) rfl
  cases ok with
  | true =>
    go_upto_region 7 with (first
      | (go_at_call 42; with_reducible refine (HR.out _).mono ?_; rintro e w1 ⟨rfl, B1⟩
         have H1 := hidp (H0.out.below B1)
         have e0 := cellOf H1.out.box 0 (v := .int .u32 (p.a : Int)) rfl
         have e1 := cellOf H1.out.box 1 (v := .int .i64 p.l) rfl
         clear B1 d0 d1)
      | (go_at_call 19; refine (tlen_any wA b t n _ H1.out.trie).mono ?_; rintro e w9 ⟨rfl, rfl⟩)
      | (go_at_call 30; refine (HG.out _ H1.out.trie).mono ?_; rintro e w2 ⟨rfl, B2⟩
         have H2 := hidp (H1.out.below B2)
         clear B2 e0 e1)
      | (with_reducible refine wpList_store_row rfl 37 (.tmp 9) (.tmp 20) rfl w2.heap.size a.cells.toArray rfl rfl 37 _ (heap_alloc_new _ _) hia.out rfl a.all_one ?_
         rw [alloc_fill _ rfl]))
    have h3 := H2.out.below ((Below.refl w2.heap.size w2).alloc (Nat.le_refl _) (.cells a.cells.toArray 37))
    change Code.wp Try.prog _ _ _ (w2.alloc (.cells a.cells.toArray 37))
    generalize w2.alloc (.cells a.cells.toArray 37) = w3 at *
    have h3d := h3.below (Below.refl w3.heap.size w3).drew
    clear h3
    refine wp_region_flowG (G := Option Addr × Option Addr) (fun g iqv => ([(.pointer (some ⟨b, 0, none⟩) : Value), (.pointer t.addr : Value), (.agg #[.int .u32 (p.a : Int), .int .i64 p.l] : Value), (.agg v.cells.toArray : Value), (.pointer g.1 : Value), (.int .i64 n : Value), (.agg #[.pointer g.1, .int .i64 n] : Value), (.pointer g.2 : Value), (.pointer g.2 : Value), (.int .i64 0 : Value)] : List Value).getD iqv undef) (fun d g W => TrJ wA w (PutT wA w p v b t n) (putA t.ab p v) n (d 4) (d 7) g W) ((none, none)) (fun g => [(some 26, .pointer (some ⟨b, 0, none⟩)), (some 27, .pointer t.addr), (some 28, .agg #[.int .u32 (p.a : Int), .int .i64 p.l]), (some 29, .agg v.cells.toArray), (some 30, .pointer g.1), (some 31, .int .i64 n), (some 32, .agg #[.pointer g.1, .int .i64 n]), (some 33, .pointer g.2), (some 6, .pointer g.2), (some 7, .int .i64 0)]) (by kernel_rfl) (by kernel_rfl) ⟨h3d, fun h => (by cases h), fun h => (by cases h)⟩ (fun iq hiq => ?_) (fun g => by kernel_rfl) (fun d g W hall hJ => ?_)
    · match iq, hiq with
      | 0, _ =>
        intro d g aq W hdi hw hcl hJ hf
        have v0 : aq.tmps[0]? = some (.pointer (some ⟨b, 0, none⟩)) := (hf.at_base 0 (by kernel_rfl)).trans rfl
        clear hf
        refine wpOp_flow rfl (by rfl) (fun Kq hK => ?_)
        go_simp
        exact hK _ _ ⟨g, rfl, hJ, fun _ _ => rfl⟩
      | 1, _ =>
        intro d g aq W hdi hw hcl hJ hf
        have v26 : aq.tmps[26]? = some (.pointer (some ⟨b, 0, none⟩)) := hf.val 0 26 (by kernel_rfl) rfl
        clear hf
        refine wpOp_flow rfl (by rfl) (fun Kq hK => ?_)
        go_simp
        refine (top_any wA b t n _ hJ.1.trie).mono ?_
        rintro e w19 ⟨rfl, rfl⟩
        rw [Tr.ptr_addr]
        exact hK _ _ ⟨g, rfl, hJ, fun _ _ => rfl⟩
      | 2, _ =>
        intro d g aq W hdi hw hcl hJ hf
        have v4 : aq.tmps[4]? = some (.pointer (some ⟨w.heap.size, 0, none⟩)) := (hf.at_base 4 (by kernel_rfl)).trans rfl
        clear hf
        refine wpOp_flow rfl (by rfl) (fun Kq hK => ?_)
        have d0 := cellOf hJ.1.box 0 (v := .int .u32 (p.a : Int)) rfl
        have d1 := cellOf hJ.1.box 1 (v := .int .i64 p.l) rfl
        go_simp
        exact hK _ _ ⟨g, rfl, hJ, fun _ _ => rfl⟩
      | 3, _ =>
        intro d g aq W hdi hw hcl hJ hf
        have v5 : aq.tmps[5]? = some (.pointer (some ⟨w.heap.size + 1, 0, none⟩)) := (hf.at_base 5 (by kernel_rfl)).trans rfl
        clear hf
        refine wpOp_flow rfl (by rfl) (fun Kq hK => ?_)
        refine wp_load_row 37 (.tmp 5) rfl (w.heap.size + 1) (eval_of v5) 37 v.cells.toArray (0, 0) _ hJ.1.att Try.underlying37 rfl hiv.out (hK _ _ ⟨g, rfl, hJ, fun _ _ => rfl⟩)
      | 4, _ =>
        intro d g aq W hdi hw hcl hJ hf
        have v27 : aq.tmps[27]? = some (.pointer t.addr) := hf.val 1 27 (by kernel_rfl) rfl
        have v28 : aq.tmps[28]? = some (.agg #[.int .u32 (p.a : Int), .int .i64 p.l]) := hf.val 2 28 (by kernel_rfl) rfl
        have v29 : aq.tmps[29]? = some (.agg v.cells.toArray) := hf.val 3 29 (by kernel_rfl) rfl
        clear hf
        refine wpOp_flow rfl (by rfl) (fun Kq hK => ?_)
        go_simp
        refine (HP.out W hJ.1.trie.tree).mono ?_
        rintro e w19 ⟨⟨t', rfl, h1, h2, -⟩, B19⟩
        rw [Tr.ptr_addr]
        exact hK _ _ ⟨(t'.addr, g.2), rfl, ⟨hJ.1.below B19, fun _ => ⟨t', rfl, h1, h2⟩, fun h => (hJ.2.2 h).below B19⟩, (fun j hj => match j, hj with | 0, _ => rfl | 1, _ => rfl | 2, _ => rfl | 3, _ => rfl | 4, hj => absurd (hj.symm.trans hdi) (by decide) | 5, _ => rfl | 6, hj => absurd ((hcl 6 hj 4 (by kernel_rfl)).symm.trans hdi) (by decide) | 7, _ => rfl | 8, _ => rfl | 9, _ => rfl | _ + 10, _ => rfl)⟩
      | 5, _ =>
        intro d g aq W hdi hw hcl hJ hf
        have v8 : aq.tmps[8]? = some (.int .i64 n) := (hf.at_base 8 (by kernel_rfl)).trans rfl
        clear hf
        refine wpOp_flow rfl (by rfl) (fun Kq hK => ?_)
        go_simp
        exact hK _ _ ⟨g, rfl, hJ, fun _ _ => rfl⟩
      | 6, _ =>
        intro d g aq W hdi hw hcl hJ hf
        have v30 : aq.tmps[30]? = some (.pointer g.1) := hf.val 4 30 (by kernel_rfl) rfl
        have v31 : aq.tmps[31]? = some (.int .i64 n) := hf.val 5 31 (by kernel_rfl) rfl
        clear hf
        refine wpOp_flow rfl (by rfl) (fun Kq hK => ?_)
        go_simp
        exact hK _ _ ⟨g, rfl, hJ, fun _ _ => rfl⟩
      | 7, _ =>
        intro d g aq W hdi hw hcl hJ hf
        have v32 : aq.tmps[32]? = some (.agg #[.pointer g.1, .int .i64 n]) := hf.val 6 32 (by kernel_rfl) rfl
        clear hf
        refine wpOp_flow rfl (by rfl) (fun Kq hK => ?_)
        obtain ⟨t', h0, h1, h2⟩ := hJ.2.1 (hcl 6 (hw 6 (by kernel_rfl)) 4 (by kernel_rfl))
        have hB := (Below.refl W.heap.size W).alloc (Nat.le_refl _) (.cells #[.pointer g.1, .int .i64 n] 76)
        have hS := hJ.1.below hB
        have hG : TrG wA w (putA t.ab p v) n (some ⟨W.heap.size, 0, none⟩) (W.alloc (.cells #[.pointer g.1, .int .i64 n] 76)) := ⟨W.heap.size, t', rfl, hJ.1.bel.size, trie_new h0 h1, h2⟩
        have hO : TrO wA (putA t.ab p v) g.1 (W.alloc (.cells #[.pointer g.1, .int .i64 n] 76)) := ⟨t', h0, h1.below hB, h2⟩
        clear hB h0 h1 h2
        go_simp
        exact hK _ _ ⟨(g.1, some ⟨W.heap.size, 0, none⟩), rfl, ⟨hS, fun _ => hO, fun _ => hG⟩, (fun j hj => match j, hj with | 0, _ => rfl | 1, _ => rfl | 2, _ => rfl | 3, _ => rfl | 4, _ => rfl | 5, _ => rfl | 6, _ => rfl | 7, hj => absurd (hj.symm.trans hdi) (by decide) | 8, hj => absurd ((hcl 8 hj 7 (by kernel_rfl)).symm.trans hdi) (by decide) | 9, _ => rfl | _ + 10, _ => rfl)⟩
      | 8, _ =>
        intro d g aq W hdi hw hcl hJ hf
        have v33 : aq.tmps[33]? = some (.pointer g.2) := hf.val 7 33 (by kernel_rfl) rfl
        clear hf
        refine wpOp_flow rfl (by rfl) (fun Kq hK => ?_)
        go_simp
        exact hK _ _ ⟨g, rfl, hJ, fun _ _ => rfl⟩
      | 9, _ =>
        intro d g aq W hdi hw hcl hJ hf
        clear hf
        refine wpOp_flow rfl (by rfl) (fun Kq hK => ?_)
        go_simp
        exact hK _ _ ⟨g, rfl, hJ, fun _ _ => rfl⟩
      | kq + 10, hk => exact absurd hk (by first | omega | (intro h; simp at h; omega))
    · simp only [puts, Act.put, List.setIfInBounds_toArray, List.set_cons_zero, List.set_cons_succ]
      obtain ⟨b', t', h1, h2, h3, h4⟩ := hJ.2.2 (hall 7 (by decide))
      have HF := hidp (And.intro h2 (And.intro h3 (And.intro h4 hJ.1.bel)))
      obtain ⟨g1, g2⟩ := g
      have h1' : g2 = some ⟨b', 0, none⟩ := h1
      subst h1'
      clear h1 h2 h3 h4 hJ hall
      go_wp2
      go_ret2
      exact ⟨⟨⟨b', 0, none⟩, rfl, b', t', rfl, HF.out.1, HF.out.2.1, HF.out.2.2.1⟩, HF.out.2.2.2⟩
  | false =>
    have hn1 : wrap64 (n + 1) = n + 1 := by
      have h1 := HN.out
      simp at h1
      simp only [wrap64]
      omega
    go_upto_region 7 with (first
      | (go_at_call 42; with_reducible refine (HR.out _).mono ?_; rintro e w1 ⟨rfl, B1⟩
         have H1 := hidp (H0.out.below B1)
         have e0 := cellOf H1.out.box 0 (v := .int .u32 (p.a : Int)) rfl
         have e1 := cellOf H1.out.box 1 (v := .int .i64 p.l) rfl
         clear B1 d0 d1)
      | (go_at_call 19; refine (tlen_any wA b t n _ H1.out.trie).mono ?_; rintro e w9 ⟨rfl, rfl⟩)
      | (go_at_call 30; refine (HG.out _ H1.out.trie).mono ?_; rintro e w2 ⟨rfl, B2⟩
         have H2 := hidp (H1.out.below B2)
         clear B2 e0 e1)
      | (with_reducible refine wpList_store_row rfl 37 (.tmp 9) (.tmp 20) rfl w2.heap.size a.cells.toArray rfl rfl 37 _ (heap_alloc_new _ _) hia.out rfl a.all_one ?_
         rw [alloc_fill _ rfl]))
    have h3 := H2.out.below ((Below.refl w2.heap.size w2).alloc (Nat.le_refl _) (.cells a.cells.toArray 37))
    change Code.wp Try.prog _ _ _ (w2.alloc (.cells a.cells.toArray 37))
    generalize w2.alloc (.cells a.cells.toArray 37) = w3 at *
    have h3d := h3.below (Below.refl w3.heap.size w3).drew
    clear h3
    rw [hn1]
    refine wp_region_flowG (G := Option Addr × Option Addr) (fun g iqv => ([(.pointer (some ⟨b, 0, none⟩) : Value), (.pointer t.addr : Value), (.agg #[.int .u32 (p.a : Int), .int .i64 p.l] : Value), (.agg v.cells.toArray : Value), (.pointer g.1 : Value), (.int .i64 (n + 1) : Value), (.agg #[.pointer g.1, .int .i64 (n + 1)] : Value), (.pointer g.2 : Value), (.pointer g.2 : Value), (.int .i64 0 : Value)] : List Value).getD iqv undef) (fun d g W => TrJ wA w (PutT wA w p v b t n) (putA t.ab p v) (n + 1) (d 4) (d 7) g W) ((none, none)) (fun g => [(some 26, .pointer (some ⟨b, 0, none⟩)), (some 27, .pointer t.addr), (some 28, .agg #[.int .u32 (p.a : Int), .int .i64 p.l]), (some 29, .agg v.cells.toArray), (some 30, .pointer g.1), (some 31, .int .i64 (n + 1)), (some 32, .agg #[.pointer g.1, .int .i64 (n + 1)]), (some 33, .pointer g.2), (some 6, .pointer g.2), (some 7, .int .i64 0)]) (by kernel_rfl) (by kernel_rfl) ⟨h3d, fun h => (by cases h), fun h => (by cases h)⟩ (fun iq hiq => ?_) (fun g => by kernel_rfl) (fun d g W hall hJ => ?_)
    · match iq, hiq with
      | 0, _ =>
        intro d g aq W hdi hw hcl hJ hf
        have v0 : aq.tmps[0]? = some (.pointer (some ⟨b, 0, none⟩)) := (hf.at_base 0 (by kernel_rfl)).trans rfl
        clear hf
        refine wpOp_flow rfl (by rfl) (fun Kq hK => ?_)
        go_simp
        exact hK _ _ ⟨g, rfl, hJ, fun _ _ => rfl⟩
      | 1, _ =>
        intro d g aq W hdi hw hcl hJ hf
        have v26 : aq.tmps[26]? = some (.pointer (some ⟨b, 0, none⟩)) := hf.val 0 26 (by kernel_rfl) rfl
        clear hf
        refine wpOp_flow rfl (by rfl) (fun Kq hK => ?_)
        go_simp
        refine (top_any wA b t n _ hJ.1.trie).mono ?_
        rintro e w19 ⟨rfl, rfl⟩
        rw [Tr.ptr_addr]
        exact hK _ _ ⟨g, rfl, hJ, fun _ _ => rfl⟩
      | 2, _ =>
        intro d g aq W hdi hw hcl hJ hf
        have v4 : aq.tmps[4]? = some (.pointer (some ⟨w.heap.size, 0, none⟩)) := (hf.at_base 4 (by kernel_rfl)).trans rfl
        clear hf
        refine wpOp_flow rfl (by rfl) (fun Kq hK => ?_)
        have d0 := cellOf hJ.1.box 0 (v := .int .u32 (p.a : Int)) rfl
        have d1 := cellOf hJ.1.box 1 (v := .int .i64 p.l) rfl
        go_simp
        exact hK _ _ ⟨g, rfl, hJ, fun _ _ => rfl⟩
      | 3, _ =>
        intro d g aq W hdi hw hcl hJ hf
        have v5 : aq.tmps[5]? = some (.pointer (some ⟨w.heap.size + 1, 0, none⟩)) := (hf.at_base 5 (by kernel_rfl)).trans rfl
        clear hf
        refine wpOp_flow rfl (by rfl) (fun Kq hK => ?_)
        refine wp_load_row 37 (.tmp 5) rfl (w.heap.size + 1) (eval_of v5) 37 v.cells.toArray (0, 0) _ hJ.1.att Try.underlying37 rfl hiv.out (hK _ _ ⟨g, rfl, hJ, fun _ _ => rfl⟩)
      | 4, _ =>
        intro d g aq W hdi hw hcl hJ hf
        have v27 : aq.tmps[27]? = some (.pointer t.addr) := hf.val 1 27 (by kernel_rfl) rfl
        have v28 : aq.tmps[28]? = some (.agg #[.int .u32 (p.a : Int), .int .i64 p.l]) := hf.val 2 28 (by kernel_rfl) rfl
        have v29 : aq.tmps[29]? = some (.agg v.cells.toArray) := hf.val 3 29 (by kernel_rfl) rfl
        clear hf
        refine wpOp_flow rfl (by rfl) (fun Kq hK => ?_)
        go_simp
        refine (HP.out W hJ.1.trie.tree).mono ?_
        rintro e w19 ⟨⟨t', rfl, h1, h2, -⟩, B19⟩
        rw [Tr.ptr_addr]
        exact hK _ _ ⟨(t'.addr, g.2), rfl, ⟨hJ.1.below B19, fun _ => ⟨t', rfl, h1, h2⟩, fun h => (hJ.2.2 h).below B19⟩, (fun j hj => match j, hj with | 0, _ => rfl | 1, _ => rfl | 2, _ => rfl | 3, _ => rfl | 4, hj => absurd (hj.symm.trans hdi) (by decide) | 5, _ => rfl | 6, hj => absurd ((hcl 6 hj 4 (by kernel_rfl)).symm.trans hdi) (by decide) | 7, _ => rfl | 8, _ => rfl | 9, _ => rfl | _ + 10, _ => rfl)⟩
      | 5, _ =>
        intro d g aq W hdi hw hcl hJ hf
        have v8 : aq.tmps[8]? = some (.int .i64 (n + 1)) := (hf.at_base 8 (by kernel_rfl)).trans rfl
        clear hf
        refine wpOp_flow rfl (by rfl) (fun Kq hK => ?_)
        go_simp
        exact hK _ _ ⟨g, rfl, hJ, fun _ _ => rfl⟩
      | 6, _ =>
        intro d g aq W hdi hw hcl hJ hf
        have v30 : aq.tmps[30]? = some (.pointer g.1) := hf.val 4 30 (by kernel_rfl) rfl
        have v31 : aq.tmps[31]? = some (.int .i64 (n + 1)) := hf.val 5 31 (by kernel_rfl) rfl
        clear hf
        refine wpOp_flow rfl (by rfl) (fun Kq hK => ?_)
        go_simp
        exact hK _ _ ⟨g, rfl, hJ, fun _ _ => rfl⟩
      | 7, _ =>
        intro d g aq W hdi hw hcl hJ hf
        have v32 : aq.tmps[32]? = some (.agg #[.pointer g.1, .int .i64 (n + 1)]) := hf.val 6 32 (by kernel_rfl) rfl
        clear hf
        refine wpOp_flow rfl (by rfl) (fun Kq hK => ?_)
        obtain ⟨t', h0, h1, h2⟩ := hJ.2.1 (hcl 6 (hw 6 (by kernel_rfl)) 4 (by kernel_rfl))
        have hB := (Below.refl W.heap.size W).alloc (Nat.le_refl _) (.cells #[.pointer g.1, .int .i64 (n + 1)] 76)
        have hS := hJ.1.below hB
        have hG : TrG wA w (putA t.ab p v) (n + 1) (some ⟨W.heap.size, 0, none⟩) (W.alloc (.cells #[.pointer g.1, .int .i64 (n + 1)] 76)) := ⟨W.heap.size, t', rfl, hJ.1.bel.size, trie_new h0 h1, h2⟩
        have hO : TrO wA (putA t.ab p v) g.1 (W.alloc (.cells #[.pointer g.1, .int .i64 (n + 1)] 76)) := ⟨t', h0, h1.below hB, h2⟩
        clear hB h0 h1 h2
        go_simp
        exact hK _ _ ⟨(g.1, some ⟨W.heap.size, 0, none⟩), rfl, ⟨hS, fun _ => hO, fun _ => hG⟩, (fun j hj => match j, hj with | 0, _ => rfl | 1, _ => rfl | 2, _ => rfl | 3, _ => rfl | 4, _ => rfl | 5, _ => rfl | 6, _ => rfl | 7, hj => absurd (hj.symm.trans hdi) (by decide) | 8, hj => absurd ((hcl 8 hj 7 (by kernel_rfl)).symm.trans hdi) (by decide) | 9, _ => rfl | _ + 10, _ => rfl)⟩
      | 8, _ =>
        intro d g aq W hdi hw hcl hJ hf
        have v33 : aq.tmps[33]? = some (.pointer g.2) := hf.val 7 33 (by kernel_rfl) rfl
        clear hf
        refine wpOp_flow rfl (by rfl) (fun Kq hK => ?_)
        go_simp
        exact hK _ _ ⟨g, rfl, hJ, fun _ _ => rfl⟩
      | 9, _ =>
        intro d g aq W hdi hw hcl hJ hf
        clear hf
        refine wpOp_flow rfl (by rfl) (fun Kq hK => ?_)
        go_simp
        exact hK _ _ ⟨g, rfl, hJ, fun _ _ => rfl⟩
      | kq + 10, hk => exact absurd hk (by first | omega | (intro h; simp at h; omega))
    · simp only [puts, Act.put, List.setIfInBounds_toArray, List.set_cons_zero, List.set_cons_succ]
      obtain ⟨b', t', h1, h2, h3, h4⟩ := hJ.2.2 (hall 7 (by decide))
      have HF := hidp (And.intro h2 (And.intro h3 (And.intro h4 hJ.1.bel)))
      obtain ⟨g1, g2⟩ := g
      have h1' : g2 = some ⟨b', 0, none⟩ := h1
      subst h1'
      clear h1 h2 h3 h4 hJ hall
      go_wp2
      go_ret2
      exact ⟨⟨⟨b', 0, none⟩, rfl, b', t', rfl, HF.out.1, HF.out.2.1, HF.out.2.2.1⟩, HF.out.2.2.2⟩

set_option maxRecDepth 100000 in
set_option maxHeartbeats 4000000 in
theorem tdel_any (wA : World) (b : Nat) (t : Tr) (n : Int) (p : Pf) (hp : p.ok) (w : World) (h : TrieAt wA w b t n) (hn0 : -9223372036854775807 ≤ n) (hn : n < 9223372036854775808) :
    Calls Try.prog 26 #[.pointer (some ⟨b, 0, none⟩), p.val] w fun e w' => (∃ b', e = .returned (.tuple #[.pointer (some b'), .bool (getT t p).2]) ∧ TrG wA w (if (getT t p).2 = true then delA t.ab p else t.ab) (if (getT t p).2 = true then n - 1 else n) (some b') w') ∧ Below w.heap.size w w' := by
  have hpv : p.val = .agg #[.int .u32 (p.a : Int), .int .i64 p.l] := rfl
  have h0 : DelT wA w p b t n (w.alloc (.cells #[.int .u32 (p.a : Int), .int .i64 p.l] 44)) := by
    have hb := (Below.refl w.heap.size w).alloc (Nat.le_refl _) (.cells #[.int .u32 (p.a : Int), .int .i64 p.l] 44)
    exact ⟨hb, heap_alloc_new w _, h.below hb⟩
  have H0 := hidp h0
  have hw1 : IntKind.i64.wrap (n - 1) = n - 1 := by
    simp [IntKind.wrap, IntKind.bits, IntKind.signed]
    omega
  have HW1 := hidp hw1
  have HG := hidp (fun W h => tget_any wA b t n p hp W h)
  have HP := hidp (fun (hf : (findT t p).ab ≠ .nil) W h => del_any wA p hp t W h hf)
  rw [hpv]
  rw [hpv] at HG HP
  rw [Tr.ptr_addr] at HP
  clear hpv h0 hn0 hn hp h hw1
  obtain ⟨a, ok, hgt⟩ : ∃ a ok, getT t p = (a, ok) := ⟨_, _, rfl⟩
  have hia : Hid ((Try.prog.info? 37).map (·.size) = some a.cells.toArray.size) := Try.info37
  have hav : a.val = .agg a.cells.toArray := rfl
  have hlen : a.cells.length = 11 := rfl
  rw [hgt] at HG ⊢
  rw [hav] at HG
  clear hav
  have HGT := hidp hgt
  clear hgt
  go_enter Try.func26, Try.ntmps26
  go_upto_region 1 with (fail)
  change Code.wp Try.prog _ _ _ (w.alloc (.cells #[.int .u32 (p.a : Int), .int .i64 p.l] 44))
  generalize w.alloc (.cells #[.int .u32 (p.a : Int), .int .i64 p.l] 44) = w0 at *
  have d0 := cellOf H0.out.box 0 (v := .int .u32 (p.a : Int)) rfl
  have d1 := cellOf H0.out.box 1 (v := .int .i64 p.l) rfl
  cases ok with
  | true =>
    have HP1 := hidp (HP.out (getT_find (by rw [HGT.out])))
    clear HP
    have HP := HP1
    clear HP1
    go_upto_region 4 with (first
      | (go_at_call 30; refine (HG.out _ H0.out.trie).mono ?_; rintro e w2 ⟨rfl, B2⟩
         have H2 := hidp (H0.out.below B2)
         clear B2 d0 d1)
      | (with_reducible refine wpList_store_row rfl 37 (.tmp 6) (.tmp 12) rfl w2.heap.size a.cells.toArray rfl rfl 37 _ (heap_alloc_new _ _) hia.out rfl a.all_one ?_
         rw [alloc_fill _ rfl]))
    have h3 := H2.out.below ((Below.refl w2.heap.size w2).alloc (Nat.le_refl _) (.cells a.cells.toArray 37))
    change Code.wp Try.prog _ _ _ (w2.alloc (.cells a.cells.toArray 37))
    generalize w2.alloc (.cells a.cells.toArray 37) = w3 at *
    have h3d := h3.below (Below.refl w3.heap.size w3).drew
    clear h3
    refine wp_region_flowG (G := Option Addr × Option Addr) (fun g iqv => ([(.pointer (some ⟨b, 0, none⟩) : Value), (.pointer (some ⟨b, 0, none⟩) : Value), (.pointer (some ⟨b, 0, none⟩) : Value), (.pointer t.addr : Value), (.agg #[.int .u32 (p.a : Int), .int .i64 p.l] : Value), (.pointer g.1 : Value), (.pointer (some ⟨b, 0, none⟩) : Value), (.pointer (some ⟨b, 0, none⟩) : Value), (.pointer (some ⟨b, 1, none⟩) : Value), (.int .i64 n : Value), (.int .i64 (n - 1) : Value), (.agg #[.pointer g.1, .int .i64 (n - 1)] : Value), (.pointer g.2 : Value), (.pointer g.2 : Value), (.bool true : Value)] : List Value).getD iqv undef) (fun d g W => TrJ wA w (DelT wA w p b t n) (delA t.ab p) (n - 1) (d 5) (d 12) g W) ((none, none)) (fun g => [(some 22, .pointer (some ⟨b, 0, none⟩)), (some 23, .pointer (some ⟨b, 0, none⟩)), (some 24, .pointer (some ⟨b, 0, none⟩)), (some 25, .pointer t.addr), (some 26, .agg #[.int .u32 (p.a : Int), .int .i64 p.l]), (some 27, .pointer g.1), (some 28, .pointer (some ⟨b, 0, none⟩)), (some 29, .pointer (some ⟨b, 0, none⟩)), (some 30, .pointer (some ⟨b, 1, none⟩)), (some 31, .int .i64 n), (some 32, .int .i64 (n - 1)), (some 33, .agg #[.pointer g.1, .int .i64 (n - 1)]), (some 34, .pointer g.2), (some 4, .pointer g.2), (some 5, .bool true)]) (by kernel_rfl) (by kernel_rfl) ⟨h3d, fun h => (by cases h), fun h => (by cases h)⟩ (fun iq hiq => ?_) (fun g => by kernel_rfl) (fun d g W hall hJ => ?_)
    · match iq, hiq with
      | 0, _ =>
        intro d g aq W hdi hw hcl hJ hf
        have v0 : aq.tmps[0]? = some (.pointer (some ⟨b, 0, none⟩)) := (hf.at_base 0 (by kernel_rfl)).trans rfl
        clear hf
        refine wpOp_flow rfl (by rfl) (fun Kq hK => ?_)
        go_simp
        exact hK _ _ ⟨g, rfl, hJ, fun _ _ => rfl⟩
      | 1, _ =>
        intro d g aq W hdi hw hcl hJ hf
        have v22 : aq.tmps[22]? = some (.pointer (some ⟨b, 0, none⟩)) := hf.val 0 22 (by kernel_rfl) rfl
        clear hf
        refine wpOp_flow rfl (by rfl) (fun Kq hK => ?_)
        go_simp
        exact hK _ _ ⟨g, rfl, hJ, fun _ _ => rfl⟩
      | 2, _ =>
        intro d g aq W hdi hw hcl hJ hf
        have v23 : aq.tmps[23]? = some (.pointer (some ⟨b, 0, none⟩)) := hf.val 1 23 (by kernel_rfl) rfl
        clear hf
        refine wpOp_flow rfl (by rfl) (fun Kq hK => ?_)
        go_simp
        exact hK _ _ ⟨g, rfl, hJ, fun _ _ => rfl⟩
      | 3, _ =>
        intro d g aq W hdi hw hcl hJ hf
        have v24 : aq.tmps[24]? = some (.pointer (some ⟨b, 0, none⟩)) := hf.val 2 24 (by kernel_rfl) rfl
        clear hf
        refine wpOp_flow rfl (by rfl) (fun Kq hK => ?_)
        have k0 := cellOf hJ.1.trie.blk 0 (v := t.ptr) rfl
        rw [Tr.ptr_addr] at k0
        go_simp
        exact hK _ _ ⟨g, rfl, hJ, fun _ _ => rfl⟩
      | 4, _ =>
        intro d g aq W hdi hw hcl hJ hf
        have v3 : aq.tmps[3]? = some (.pointer (some ⟨w.heap.size, 0, none⟩)) := (hf.at_base 3 (by kernel_rfl)).trans rfl
        clear hf
        refine wpOp_flow rfl (by rfl) (fun Kq hK => ?_)
        have d0 := cellOf hJ.1.box 0 (v := .int .u32 (p.a : Int)) rfl
        have d1 := cellOf hJ.1.box 1 (v := .int .i64 p.l) rfl
        go_simp
        exact hK _ _ ⟨g, rfl, hJ, fun _ _ => rfl⟩
      | 5, _ =>
        intro d g aq W hdi hw hcl hJ hf
        have v25 : aq.tmps[25]? = some (.pointer t.addr) := hf.val 3 25 (by kernel_rfl) rfl
        have v26 : aq.tmps[26]? = some (.agg #[.int .u32 (p.a : Int), .int .i64 p.l]) := hf.val 4 26 (by kernel_rfl) rfl
        clear hf
        refine wpOp_flow rfl (by rfl) (fun Kq hK => ?_)
        go_simp
        refine (HP.out W hJ.1.trie.tree).mono ?_
        rintro e w19 ⟨⟨t', rfl, h1, h2, -⟩, B19⟩
        rw [Tr.ptr_addr]
        exact hK _ _ ⟨(t'.addr, g.2), rfl, ⟨hJ.1.below B19, fun _ => ⟨t', rfl, h1, h2⟩, fun h => (hJ.2.2 h).below B19⟩, (fun j hj => match j, hj with | 0, _ => rfl | 1, _ => rfl | 2, _ => rfl | 3, _ => rfl | 4, _ => rfl | 5, hj => absurd (hj.symm.trans hdi) (by decide) | 6, _ => rfl | 7, _ => rfl | 8, _ => rfl | 9, _ => rfl | 10, _ => rfl | 11, hj => absurd ((hcl 11 hj 5 (by kernel_rfl)).symm.trans hdi) (by decide) | 12, _ => rfl | 13, _ => rfl | 14, _ => rfl | _ + 15, _ => rfl)⟩
      | 6, _ =>
        intro d g aq W hdi hw hcl hJ hf
        have v0 : aq.tmps[0]? = some (.pointer (some ⟨b, 0, none⟩)) := (hf.at_base 0 (by kernel_rfl)).trans rfl
        clear hf
        refine wpOp_flow rfl (by rfl) (fun Kq hK => ?_)
        go_simp
        exact hK _ _ ⟨g, rfl, hJ, fun _ _ => rfl⟩
      | 7, _ =>
        intro d g aq W hdi hw hcl hJ hf
        have v28 : aq.tmps[28]? = some (.pointer (some ⟨b, 0, none⟩)) := hf.val 6 28 (by kernel_rfl) rfl
        clear hf
        refine wpOp_flow rfl (by rfl) (fun Kq hK => ?_)
        go_simp
        exact hK _ _ ⟨g, rfl, hJ, fun _ _ => rfl⟩
      | 8, _ =>
        intro d g aq W hdi hw hcl hJ hf
        have v29 : aq.tmps[29]? = some (.pointer (some ⟨b, 0, none⟩)) := hf.val 7 29 (by kernel_rfl) rfl
        clear hf
        refine wpOp_flow rfl (by rfl) (fun Kq hK => ?_)
        go_simp
        exact hK _ _ ⟨g, rfl, hJ, fun _ _ => rfl⟩
      | 9, _ =>
        intro d g aq W hdi hw hcl hJ hf
        have v30 : aq.tmps[30]? = some (.pointer (some ⟨b, 1, none⟩)) := hf.val 8 30 (by kernel_rfl) rfl
        clear hf
        refine wpOp_flow rfl (by rfl) (fun Kq hK => ?_)
        have k1 := cellOf hJ.1.trie.blk 1 (v := .int .i64 n) rfl
        go_simp
        exact hK _ _ ⟨g, rfl, hJ, fun _ _ => rfl⟩
      | 10, _ =>
        intro d g aq W hdi hw hcl hJ hf
        have v31 : aq.tmps[31]? = some (.int .i64 n) := hf.val 9 31 (by kernel_rfl) rfl
        clear hf
        refine wpOp_flow rfl (by rfl) (fun Kq hK => ?_)
        go_simp
        rw [HW1.out]
        exact hK _ _ ⟨g, rfl, hJ, fun _ _ => rfl⟩
      | 11, _ =>
        intro d g aq W hdi hw hcl hJ hf
        have v27 : aq.tmps[27]? = some (.pointer g.1) := hf.val 5 27 (by kernel_rfl) rfl
        have v32 : aq.tmps[32]? = some (.int .i64 (n - 1)) := hf.val 10 32 (by kernel_rfl) rfl
        clear hf
        refine wpOp_flow rfl (by rfl) (fun Kq hK => ?_)
        go_simp
        exact hK _ _ ⟨g, rfl, hJ, fun _ _ => rfl⟩
      | 12, _ =>
        intro d g aq W hdi hw hcl hJ hf
        have v33 : aq.tmps[33]? = some (.agg #[.pointer g.1, .int .i64 (n - 1)]) := hf.val 11 33 (by kernel_rfl) rfl
        clear hf
        refine wpOp_flow rfl (by rfl) (fun Kq hK => ?_)
        obtain ⟨t', h0, h1, h2⟩ := hJ.2.1 (hcl 11 (hw 11 (by kernel_rfl)) 5 (by kernel_rfl))
        have hB := (Below.refl W.heap.size W).alloc (Nat.le_refl _) (.cells #[.pointer g.1, .int .i64 (n - 1)] 76)
        have hS := hJ.1.below hB
        have hG : TrG wA w (delA t.ab p) (n - 1) (some ⟨W.heap.size, 0, none⟩) (W.alloc (.cells #[.pointer g.1, .int .i64 (n - 1)] 76)) := ⟨W.heap.size, t', rfl, hJ.1.bel.size, trie_new h0 h1, h2⟩
        have hO : TrO wA (delA t.ab p) g.1 (W.alloc (.cells #[.pointer g.1, .int .i64 (n - 1)] 76)) := ⟨t', h0, h1.below hB, h2⟩
        clear hB h0 h1 h2
        go_simp
        exact hK _ _ ⟨(g.1, some ⟨W.heap.size, 0, none⟩), rfl, ⟨hS, fun _ => hO, fun _ => hG⟩, (fun j hj => match j, hj with | 0, _ => rfl | 1, _ => rfl | 2, _ => rfl | 3, _ => rfl | 4, _ => rfl | 5, _ => rfl | 6, _ => rfl | 7, _ => rfl | 8, _ => rfl | 9, _ => rfl | 10, _ => rfl | 11, _ => rfl | 12, hj => absurd (hj.symm.trans hdi) (by decide) | 13, hj => absurd ((hcl 13 hj 12 (by kernel_rfl)).symm.trans hdi) (by decide) | 14, _ => rfl | _ + 15, _ => rfl)⟩
      | 13, _ =>
        intro d g aq W hdi hw hcl hJ hf
        have v34 : aq.tmps[34]? = some (.pointer g.2) := hf.val 12 34 (by kernel_rfl) rfl
        clear hf
        refine wpOp_flow rfl (by rfl) (fun Kq hK => ?_)
        go_simp
        exact hK _ _ ⟨g, rfl, hJ, fun _ _ => rfl⟩
      | 14, _ =>
        intro d g aq W hdi hw hcl hJ hf
        clear hf
        refine wpOp_flow rfl (by rfl) (fun Kq hK => ?_)
        go_simp
        exact hK _ _ ⟨g, rfl, hJ, fun _ _ => rfl⟩
      | kq + 15, hk => exact absurd hk (by first | omega | (intro h; simp at h; omega))
    · simp only [puts, Act.put, List.setIfInBounds_toArray, List.set_cons_zero, List.set_cons_succ]
      obtain ⟨b', t', h1, h2, h3, h4⟩ := hJ.2.2 (hall 12 (by decide))
      have HF := hidp (And.intro h2 (And.intro h3 (And.intro h4 hJ.1.bel)))
      obtain ⟨g1, g2⟩ := g
      have h1' : g2 = some ⟨b', 0, none⟩ := h1
      subst h1'
      clear h1 h2 h3 h4 hJ hall
      go_wp2
      go_ret2
      exact ⟨⟨⟨b', 0, none⟩, rfl, b', t', rfl, HF.out.1, HF.out.2.1, HF.out.2.2.1⟩, HF.out.2.2.2⟩
  | false =>
    go_upto_region 3 with (first
      | (go_at_call 30; refine (HG.out _ H0.out.trie).mono ?_; rintro e w2 ⟨rfl, B2⟩
         have H2 := hidp (H0.out.below B2)
         clear B2 d0 d1)
      | (with_reducible refine wpList_store_row rfl 37 (.tmp 6) (.tmp 12) rfl w2.heap.size a.cells.toArray rfl rfl 37 _ (heap_alloc_new _ _) hia.out rfl a.all_one ?_
         rw [alloc_fill _ rfl]))
    have h3 := H2.out.below ((Below.refl w2.heap.size w2).alloc (Nat.le_refl _) (.cells a.cells.toArray 37))
    change Code.wp Try.prog _ _ _ (w2.alloc (.cells a.cells.toArray 37))
    generalize w2.alloc (.cells a.cells.toArray 37) = w3 at *
    have H3 := hidp h3
    clear h3
    go_wp2_with (first
      | (go_at_call 40; refine (top_any wA b t n _ H3.out.trie).mono ?_; rintro e w9 ⟨rfl, h9⟩; rw [h9, Tr.ptr_addr]; clear h9)
      | (go_at_call 19; refine (tlen_any wA b t n _ H3.out.trie).mono ?_; rintro e w10 ⟨rfl, h10⟩; rw [h10]; clear h10))
    go_ret2
    have hB := (Below.refl w3.heap.size w3).alloc (Nat.le_refl _) (.cells #[.pointer t.addr, .int .i64 n] 76)
    exact ⟨⟨⟨w3.heap.size, 0, none⟩, rfl, w3.heap.size, t, rfl, H3.out.bel.size, trie_new rfl H3.out.trie.tree, rfl⟩, (H3.out.below hB).bel⟩
end Go.Proofs.Ytnenpfalhbbadaa
