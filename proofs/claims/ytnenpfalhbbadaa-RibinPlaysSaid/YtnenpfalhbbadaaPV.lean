/- put of the routes: all news, as far as there is room. -/
import Derived.Test.YtnenpfalhbbadaaPF
import Derived.Test.YtnenpfalhbbadaaPI
import Derived.Test.YtnenpfalhbbadaaKF
namespace Go.Proofs.Ytnenpfalhbbadaa
open Go.RowKit

/-- a tree and how many routes it has, with news, as far as there is room; whether one was refused -/
def putL (v : Att) (lim : Int) : Ab → Int → List Pf → Ab × Int × Bool
  | A, n, [] => (A, n, false)
  | A, n, p :: r => if rightF p = true then (if (getA A p).2 = true then putL v lim (putA A p v) n r else if lim ≤ n then (A, n, true) else putL v lim (putA A p v) (n + 1) r) else putL v lim A n r
def RPutE (wA : World) (r : Ab × Int × Bool) (e : Ending) (W : World) : Prop := ∃ (b : Nat) (t : Tr), e = .returned (.tuple #[.pointer (some ⟨b, 0, none⟩), .bool r.2.2]) ∧ TrieAt wA W b t r.2.1 ∧ t.ab = r.1
structure RPut (wA w : World) (v : Att) (lim : Int) (A : Ab) (n : Int) (l : List Pf) (j : Nat) (b : Nat) (t : Tr) (m : Int) (W : World) : Prop where
  bel : Below w.heap.size w W
  box : W.heap[w.heap.size]? = some (.cells v.cells.toArray 37 (0, 0))
  trie : TrieAt wA W b t m
  rel : putL v lim t.ab m (l.drop j) = putL v lim A n l
  lo : n ≤ m
  hi : m ≤ n + j
theorem RPut.below {wA w W W' : World} {v : Att} {lim : Int} {A : Ab} {n : Int} {l : List Pf} {j b : Nat} {t : Tr} {m : Int} (h : RPut wA w v lim A n l j b t m W) (hB : Below W.heap.size W W') : RPut wA w v lim A n l j b t m W' :=
  ⟨h.bel.trans (hB.mono h.bel.size), heap_below hB h.box (ltOf h.box), h.trie.below hB, h.rel, h.lo, h.hi⟩

set_option maxRecDepth 100000 in
set_option maxHeartbeats 4000000 in
theorem rput_any (wA : World) (b : Nat) (t : Tr) (n : Int) (a : Option Addr) (nn c : Nat) (l : List Pf) (v : Att) (hv : v.at wA) (lim : Int) (w : World) (h : TrieAt wA w b t n) (hl : PfsV w a nn l) (hn0 : -9223372036854775807 ≤ n) (hn : n < 4611686018427387904) (hnn : nn ≤ 1000) :
    Calls Try.prog 27 #[.pointer (some ⟨b, 0, none⟩), .slice a nn c, v.val, .int .i64 lim] w fun e w' => RPutE wA (putL v lim t.ab n l) e w' ∧ Below w.heap.size w w' := by
  have hb := (Below.refl w.heap.size w).alloc (Nat.le_refl _) (.cells v.cells.toArray 37)
  have h0 : RPut wA w v lim t.ab n l 0 b t n (w.alloc (.cells v.cells.toArray 37)) := ⟨hb, heap_alloc_new _ _, h.below hb, rfl, Int.le_refl _, by omega⟩
  have H0 := hidp h0
  have HL := hidp hl
  have HN := hidp (And.intro hn0 (And.intro hn hnn))
  have HV := hidp hv
  have hvv : v.val = .agg v.cells.toArray := rfl
  have hiv : Hid ((Try.prog.info? 37).map (·.size) = some v.cells.toArray.size) := Try.info37
  rw [hvv]
  clear hb h0 hl hn0 hn hv h hvv
  go_enter Try.func27, Try.ntmps27
  go_upto_region 2 with (fail)
  change Code.wp Try.prog _ _ _ (w.alloc (.cells v.cells.toArray 37))
  generalize w.alloc (.cells v.cells.toArray 37) = w0 at *
  go_loopw [0, 16] (fun x i wr => ∃ (j b' : Nat) (t' : Tr) (m : Int), j ≤ nn ∧ x = .pointer (some ⟨b', 0, none⟩) ∧ i = .int .i64 j ∧ RPut wA w v lim t.ab n l j b' t' m wr) (fun _ i _ => nn - (intOf i).toNat)
  case atStart => exact ⟨0, b, t, n, by omega, rfl, rfl, H0.out⟩
  case round =>
    obtain ⟨j, b', t', m, hj, rfl, rfl, hR⟩ := hrel
    obtain ⟨w1, rfl⟩ : ∃ w1, w1 = wr := ⟨_, rfl⟩
    have HR := hidp hR
    clear hR
    by_cases hlt : j < nn
    · have l1 : (j : Int) < (nn : Int) := by omega
      obtain ⟨g, o, rfl, hrw⟩ := (HL.out.below HR.out.bel).row (by omega)
      have hjl : j < l.length := by rw [HL.out.2.1]; exact hlt
      obtain ⟨c0, c1⟩ := hrw j hjl
      have hdr : l.drop j = l[j] :: l.drop (j + 1) := List.drop_eq_getElem_cons hjl
      have hok := HL.out.2.2 _ (List.getElem_mem hjl)
      generalize l[j] = p at *
      have HREL := hidp (show putL v lim t.ab n l = putL v lim t'.ab m (p :: l.drop (j + 1)) by rw [← hdr, HR.out.rel])
      have HP := hidp hok
      have hpv : p.val = .agg #[.int .u32 (p.a : Int), .int .i64 p.l] := rfl
      have HB1 := hidp ((Below.refl w1.heap.size w1).alloc (Nat.le_refl _) (.cells #[.int .u32 (p.a : Int), .int .i64 p.l] 44))
      have HK1 := hidp (heap_alloc_new w1 (.cells #[.int .u32 (p.a : Int), .int .i64 p.l] 44))
      have HRT := hidp (fun W => right_any p hok W)
      have HG := hidp (fun W h => tget_any wA b' t' m p hok W h)
      have HPU := hidp (fun hr W h h0 h1 => tput_any wA b' t' m p hok hr v HV.out W h h0 h1)
      rw [hpv] at HRT HG HPU
      clear hdr hok hrw hjl hpv
      go_upto_region 4 with (fail)
      have hR1 := HR.out.below HB1.out
      change Code.wp Try.prog _ _ _ (w1.alloc (.cells #[.int .u32 (p.a : Int), .int .i64 p.l] 44))
      generalize w1.alloc (.cells #[.int .u32 (p.a : Int), .int .i64 p.l] 44) = w2 at *
      have d0 := cellOf HK1.out 0 (v := .int .u32 (p.a : Int)) rfl
      have d1 := cellOf HK1.out 1 (v := .int .i64 p.l) rfl
      have HR1 := hidp hR1
      clear hR1 c0 c1
      cases hr : rightF p with
      | false =>
        rw [hr] at HRT
        have HRL := hidp (show putL v lim t'.ab m (l.drop (j + 1)) = putL v lim t.ab n l by rw [HREL.out, putL, if_neg (by rw [hr]; decide)])
        clear hr
        go_wp2_with (go_at_call 42; refine (HRT.out _).mono ?_; rintro e w3 ⟨rfl, B3⟩; have H3 := hidp (HR1.out.below B3); clear B3 d0 d1)
        go_roundw
        case rel => exact ⟨j + 1, b', t', m, by omega, rfl, by go_num, H3.out.bel, H3.out.box, H3.out.trie, HRL.out, H3.out.lo, by have := H3.out.hi; omega⟩
        case measure => simp [intOf]; omega
      | true =>
        rw [hr] at HRT
        have HRR := hidp hr
        have hrl : putL v lim t.ab n l = if (getA t'.ab p).2 = true then putL v lim (putA t'.ab p v) m (l.drop (j + 1)) else if lim ≤ m then (t'.ab, m, true) else putL v lim (putA t'.ab p v) (m + 1) (l.drop (j + 1)) := by rw [HREL.out, putL, if_pos hr]
        obtain ⟨a', ok, hgt⟩ : ∃ a ok, getT t' p = (a, ok) := ⟨_, _, rfl⟩
        rw [← getT_ab, hgt] at hrl
        have hia : Hid ((Try.prog.info? 37).map (·.size) = some a'.cells.toArray.size) := Try.info37
        have hav : a'.val = .agg a'.cells.toArray := rfl
        rw [hgt, hav] at HG
        rw [hgt] at HPU
        have HRL := hidp hrl
        have HBD := hidp (show -9223372036854775807 ≤ m ∧ m + 1 < 9223372036854775808 by have := HN.out; have := HR.out.lo; have := HR.out.hi; omega)
        clear hr hrl hav
        go_upto_region 6 with (first
          | (go_at_call 42; refine (HRT.out _).mono ?_; rintro e w3 ⟨rfl, B3⟩
             have H3 := hidp (HR1.out.below B3)
             have k3 := heap_below B3 HK1.out (ltOf HK1.out)
             have e0 := cellOf k3 0 (v := .int .u32 (p.a : Int)) rfl
             have e1 := cellOf k3 1 (v := .int .i64 p.l) rfl
             have HK3 := hidp k3
             clear B3 d0 d1 k3)
          | (go_at_call 30; refine (HG.out _ H3.out.trie).mono ?_; rintro e w4 ⟨rfl, B4⟩
             have H4 := hidp (H3.out.below B4)
             have k4 := heap_below B4 HK3.out (ltOf HK3.out)
             have HK4 := hidp k4
             clear B4 e0 e1 k4)
          | (with_reducible refine wpList_store_row rfl 37 (.tmp 12) (.tmp 27) rfl w4.heap.size a'.cells.toArray rfl rfl 37 _ (heap_alloc_new _ _) hia.out rfl a'.all_one ?_
             rw [alloc_fill _ rfl]))
        have hb5 := (Below.refl w4.heap.size w4).alloc (Nat.le_refl _) (.cells a'.cells.toArray 37)
        have h5 := H4.out.below hb5
        have k5 := heap_below hb5 HK4.out (ltOf HK4.out)
        change Code.wp Try.prog _ _ _ (w4.alloc (.cells a'.cells.toArray 37))
        generalize w4.alloc (.cells a'.cells.toArray 37) = w5 at *
        have H5 := hidp h5
        have HK5 := hidp k5
        have e0 := cellOf k5 0 (v := .int .u32 (p.a : Int)) rfl
        have e1 := cellOf k5 1 (v := .int .i64 p.l) rfl
        have HPU5 := hidp (HPU.out HRR.out w5 h5.trie HBD.out.1)
        clear hb5 h5 k5 HG HRT HPU
        cases ok with
        | true =>
          have HRL2 := hidp (show putL v lim (putA t'.ab p v) m (l.drop (j + 1)) = putL v lim t.ab n l by rw [HRL.out]; simp)
          have HPU6 := hidp (HPU5.out (Or.inl rfl))
          clear HRL HPU5
          go_wp2_with (first
            | (go_at_call 43; refine HPU6.out.mono ?_; rintro e w6 ⟨⟨b6, rfl, hG⟩, B6⟩
               have H6 := hidp (H5.out.below B6)
               have HG6 := hidp hG
               clear hG B6 e0 e1)
            | (with_reducible refine wpList_load_row rfl 37 (.tmp 6) rfl w.heap.size rfl 37 v.cells.toArray (0, 0) _ H5.out.box Try.underlying37 rfl hiv.out ?_))
          obtain ⟨b7, t7, h1, h2, h3, h4⟩ := HG6.out
          cases h1
          have H7 := hidp (And.intro h3 h4)
          clear h2 h3 h4 HG6 HPU6
          go_roundw
          case rel => exact ⟨j + 1, b7, t7, m, by omega, rfl, by go_num, H6.out.bel, H6.out.box, H7.out.1, by rw [H7.out.2]; exact HRL2.out, H6.out.lo, by have := H6.out.hi; omega⟩
          case measure => simp [intOf]; omega
        | false =>
          by_cases l2 : lim ≤ m
          · have HRL2 := hidp (show (t'.ab, m, true) = putL v lim t.ab n l by rw [HRL.out, if_neg (by simp), if_pos l2])
            clear HRL HPU5
            go_wp2_with (go_at_call 19; refine (tlen_any wA b' t' m _ H5.out.trie).mono ?_; rintro e w9 ⟨rfl, h9⟩; rw [h9]; clear h9)
            go_ret2
            rw [← HRL2.out]
            exact ⟨⟨b', t', rfl, H5.out.trie, rfl⟩, H5.out.bel⟩
          · have HRL2 := hidp (show putL v lim (putA t'.ab p v) (m + 1) (l.drop (j + 1)) = putL v lim t.ab n l by rw [HRL.out, if_neg (by simp), if_neg l2])
            have HPU6 := hidp (HPU5.out (Or.inr HBD.out.2))
            clear HRL HPU5
            go_wp2_with (first
              | (go_at_call 19; refine (tlen_any wA b' t' m _ H5.out.trie).mono ?_; rintro e w9 ⟨rfl, h9⟩; rw [h9]; clear h9)
              | (go_at_call 43; refine HPU6.out.mono ?_; rintro e w6 ⟨⟨b6, rfl, hG⟩, B6⟩
                 have H6 := hidp (H5.out.below B6)
                 have HG6 := hidp hG
                 clear hG B6 e0 e1)
              | (with_reducible refine wpList_load_row rfl 37 (.tmp 6) rfl w.heap.size rfl 37 v.cells.toArray (0, 0) _ H5.out.box Try.underlying37 rfl hiv.out ?_))
            obtain ⟨b7, t7, h1, h2, h3, h4⟩ := HG6.out
            cases h1
            have H7 := hidp (And.intro h3 h4)
            clear h2 h3 h4 HG6 HPU6
            go_roundw
            case rel => exact ⟨j + 1, b7, t7, m + 1, by omega, rfl, by go_num, H6.out.bel, H6.out.box, H7.out.1, by rw [H7.out.2]; exact HRL2.out, by have := H6.out.lo; omega, by have := H6.out.hi; omega⟩
            case measure => simp [intOf]; omega
    · have l1 : ¬ (j : Int) < (nn : Int) := by omega
      obtain rfl : j = nn := by omega
      have hrel := HR.out.rel
      rw [List.drop_of_length_le (by rw [HL.out.2.1]; omega)] at hrel
      have HREL := hidp hrel
      clear hrel
      go_wp2
      go_ret2
      rw [← HREL.out]
      exact ⟨⟨b', t', rfl, HR.out.trie, rfl⟩, HR.out.bel⟩
end Go.Proofs.Ytnenpfalhbbadaa
