/- The document's Put. -/
import Derived.Test.YtnenpfalhbbadaaVA
namespace Go.Proofs.Ytnenpfalhbbadaa
open Go.RowKit

theorem putR_t {x e : En} {r : List En} : putR x true (e :: r) = (if e.p ≠ x.p then [e] else []) ++ putR x true r := by rw [putR, if_neg (fun h => absurd h.1 (by decide))]
theorem putR_i {x e : En} {r : List En} (h : ¬ ltP e.p x.p) : putR x false (e :: r) = x :: ((if e.p ≠ x.p then [e] else []) ++ putR x true r) := by rw [putR, if_pos ⟨rfl, h⟩]
theorem putR_n {x e : En} {r : List En} (h : ltP e.p x.p) : putR x false (e :: r) = (if e.p ≠ x.p then [e] else []) ++ putR x false r := by rw [putR, if_neg (fun hh => hh.2 h)]
set_option maxRecDepth 100000 in
set_option maxHeartbeats 16000000 in
theorem put16_any (wA : World) (a : Option Addr) (n c : Nat) (E : List En) (x : En) (hx : x.p.ok ∧ x.att.at wA) (w : World) (h : EnsV wA w a n E) (hn : n ≤ 1000) :
    Calls Try.prog 34 #[.slice a n c, .agg x.cells.toArray] w fun e w' => EnE wA (putR x false E) e w' ∧ Below w.heap.size w w' := by
  obtain ⟨i0, hi0, hz0, hz1, hz2⟩ := info_parts Try.infos63
  have hB := (Below.refl w.heap.size w).alloc (Nat.le_refl _) (.cells x.cells.toArray 63)
  have H := hidp (h.below hB)
  have HB := hidp hB
  have K0 := hidp (heap_alloc_new w (.cells x.cells.toArray 63))
  clear hB h
  go_enter Try.func34, Try.ntmps34
  go_wp2
  change Code.wp Try.prog _ _ _ (w.alloc (.cells x.cells.toArray 63))
  generalize w.alloc (.cells x.cells.toArray 63) = w1 at *
  have KX := hidp (fun W (hW : Below w1.heap.size w1 W) => (show W.heap[w.heap.size]? = some (.cells x.cells.toArray 63 (0, 0)) from heap_below hW K0.out (ltOf K0.out)))
  go_loopw [5, 6, 7] (fun v dv i wr => ∃ (j : Nat) (O : List En) (dn : Bool), j ≤ n ∧ dv = .bool dn ∧ i = .int .i64 (j : Int) ∧ Hid (wr.ownsRow w1.heap.size 63 14 v O.length (O.flatMap En.cells)) ∧ Hid (O ++ putR x dn (E.drop j) = putR x false E) ∧ (O.length ≤ if dn = true then j + 1 else j) ∧ Hid (Below w1.heap.size w1 wr)) (fun _ _ i _ => n - (intOf i).toNat)
  case atStart => exact ⟨0, [], false, by omega, rfl, rfl, World.ownsRow_nil _ _ _ _, rfl, by simp, Below.refl _ _⟩
  case round =>
    obtain ⟨j, O, dn, hj, rfl, rfl, HO, HREL, hlenO, HB1⟩ := hrel
    have HLENF := hidp (show dn = false → O.length ≤ j from fun h => by rw [h] at hlenO; simpa using hlenO)
    have HLEN := hidp (show O.length ≤ j + 1 by cases dn <;> simp at hlenO <;> omega)
    clear hlenO
    by_cases hlt : j < n
    · have l1 : (j : Int) < (n : Int) := by omega
      obtain ⟨g, o, rfl, hr⟩ := H.out.rows (by omega)
      have hjl : j < E.length := by rw [H.out.len]; exact hlt
      have q1 := hr j hjl
      have hdr : E.drop j = E[j] :: E.drop (j + 1) := List.drop_eq_getElem_cons hjl
      generalize E[j] = e at *
      rw [hdr] at HREL
      have QE := hidp (fun W (hW : Below w1.heap.size w1 W) => (show W.rangeAt g (o + j * 14) e.cells from fun i v hv => below_cell hW (Nat.le_refl _) _ _ (q1 i v hv)))
      have HC := hidp (fun W => cmp2_any x.p e.p W)
      rw [show x.p.val = .agg #[.int .u32 (x.p.a : Int), .int .i64 x.p.l] from rfl, show e.p.val = .agg #[.int .u32 (e.p.a : Int), .int .i64 e.p.l] from rfl] at HC
      have L1 := hidp l1
      clear hr hjl q1 hdr
      cases dn with
      | true =>
        go_upto_region 6 with (fail)
        refine wp_region_flow2 (fun iqv => ([(.bool true : Value), (.bool false : Value), (.bool false : Value), (undef : Value), (undef : Value), (undef : Value), (undef : Value), (undef : Value), (undef : Value), (undef : Value), (undef : Value), (undef : Value), (.bool false : Value)] : List Value).getD iqv undef) [(some 14, .bool true), (some 15, .bool false), (some 16, .bool false), (some 17, undef), (some 18, undef), (some 19, undef), (some 20, undef), (some 21, undef), (some 22, undef), (some 23, undef), (some 24, undef), (some 25, undef), (some 26, .bool false)] (fun W : World => Below wr.heap.size wr W) (by kernel_rfl) (by kernel_rfl) ((Below.refl _ _).drew) (fun iq hiq => ?_) (by kernel_rfl) (fun W hSW => ?_)
        · match iq, hiq with
          | 0, _ =>
            intro aq W hSW hf
            have v6 : aq.tmps[6]? = some (.bool true) := (hf.at_base 6 (by kernel_rfl)).trans rfl
            clear hf
            refine wpOp_flow rfl (by rfl) (fun Kq hK => ?_)
            go_simp
            exact hK _ _ ⟨rfl, hSW⟩
          | 1, _ =>
            intro aq W hSW hf
            have v14 : aq.tmps[14]? = some (.bool true) := hf.val 0 14 (by kernel_rfl) rfl
            clear hf
            refine wpOp_flow rfl (by rfl) (fun Kq hK => ?_)
            go_simp
            exact hK _ _ ⟨rfl, hSW⟩
          | 2, _ =>
            intro aq W hSW hf
            have v15 : aq.tmps[15]? = some (.bool false) := hf.val 1 15 (by kernel_rfl) rfl
            clear hf
            refine wpOp_flow rfl (by rfl) (fun Kq hK => ?_)
            go_simp
            exact hK _ _ ⟨rfl, hSW⟩
          | 3, _ =>
            intro aq W hSW hf
            have v16 : aq.tmps[16]? = some (.bool false) := hf.val 2 16 (by kernel_rfl) rfl
            clear hf
            exact wpOp_skip rfl (unwanted_of rfl rfl v16) ⟨rfl, hSW⟩
          | 4, _ =>
            intro aq W hSW hf
            have v16 : aq.tmps[16]? = some (.bool false) := hf.val 2 16 (by kernel_rfl) rfl
            clear hf
            exact wpOp_skip rfl (unwanted_of rfl rfl v16) ⟨rfl, hSW⟩
          | 5, _ =>
            intro aq W hSW hf
            have v16 : aq.tmps[16]? = some (.bool false) := hf.val 2 16 (by kernel_rfl) rfl
            clear hf
            exact wpOp_skip rfl (unwanted_of rfl rfl v16) ⟨rfl, hSW⟩
          | 6, _ =>
            intro aq W hSW hf
            have v16 : aq.tmps[16]? = some (.bool false) := hf.val 2 16 (by kernel_rfl) rfl
            clear hf
            exact wpOp_skip rfl (unwanted_of rfl rfl v16) ⟨rfl, hSW⟩
          | 7, _ =>
            intro aq W hSW hf
            have v16 : aq.tmps[16]? = some (.bool false) := hf.val 2 16 (by kernel_rfl) rfl
            clear hf
            exact wpOp_skip rfl (unwanted_of rfl rfl v16) ⟨rfl, hSW⟩
          | 8, _ =>
            intro aq W hSW hf
            have v16 : aq.tmps[16]? = some (.bool false) := hf.val 2 16 (by kernel_rfl) rfl
            clear hf
            exact wpOp_skip rfl (unwanted_of rfl rfl v16) ⟨rfl, hSW⟩
          | 9, _ =>
            intro aq W hSW hf
            have v16 : aq.tmps[16]? = some (.bool false) := hf.val 2 16 (by kernel_rfl) rfl
            clear hf
            exact wpOp_skip rfl (unwanted_of rfl rfl v16) ⟨rfl, hSW⟩
          | 10, _ =>
            intro aq W hSW hf
            have v16 : aq.tmps[16]? = some (.bool false) := hf.val 2 16 (by kernel_rfl) rfl
            clear hf
            exact wpOp_skip rfl (unwanted_of rfl rfl v16) ⟨rfl, hSW⟩
          | 11, _ =>
            intro aq W hSW hf
            have v16 : aq.tmps[16]? = some (.bool false) := hf.val 2 16 (by kernel_rfl) rfl
            clear hf
            exact wpOp_skip rfl (unwanted_of rfl rfl v16) ⟨rfl, hSW⟩
          | 12, _ =>
            intro aq W hSW hf
            have v16 : aq.tmps[16]? = some (.bool false) := hf.val 2 16 (by kernel_rfl) rfl
            have v25 : aq.tmps[25]? = some (undef) := hf.val 11 25 (by kernel_rfl) rfl
            clear hf
            refine wpOp_flow rfl (by rfl) (fun Kq hK => ?_)
            go_simp
            exact hK _ _ ⟨rfl, hSW⟩
          | kq + 13, hk => exact absurd hk (by first | omega | (intro h; simp at h; omega))
        · simp only [puts, Act.put, List.setIfInBounds_toArray, List.set_cons_zero, List.set_cons_succ]
          obtain ⟨w3, rfl⟩ : ∃ w3, w3 = W := ⟨_, rfl⟩
          have HO3 := hidp (ownsRow_below HO.out hSW (Nat.le_refl _))
          have HB3 := hidp (HB1.out.trans (hSW.mono HB1.out.size))
          clear hSW
          go_upto_region 9 with (fail)
          have HREL2 := hidp (show O ++ ((if e.p ≠ x.p then [e] else []) ++ putR x true (E.drop (j + 1))) = putR x false E by rw [← HREL.out, putR_t])
          have HLEN2 := hidp (show O.length ≤ j + 1 from HLEN.out)
          have c0 : w3.cell? ⟨g, o + j * 14, none⟩ = some (.int .u32 (e.p.a : Int)) := QE.out w3 HB3.out 0 _ rfl
          have c1 : w3.cell? ⟨g, o + j * 14 + 1, none⟩ = some (.int .i64 e.p.l) := QE.out w3 HB3.out 1 _ rfl
          have d0 : w3.cell? ⟨w.heap.size, 0, none⟩ = some (.int .u32 (x.p.a : Int)) := cellOf (KX.out w3 HB3.out) 0 rfl
          have d1 : w3.cell? ⟨w.heap.size, 1, none⟩ = some (.int .i64 x.p.l) := cellOf (KX.out w3 HB3.out) 1 rfl
          have hE : ∀ w, (Op.equalIn 10000 44 (.agg #[.int .u32 (e.p.a : Int), .int .i64 e.p.l]) (.agg #[.int .u32 (x.p.a : Int), .int .i64 x.p.l])).run Try.prog w = .ok (decide (e.p = x.p)) w := equal44 e.p x.p
          have QD : Hid (w3.drew.rangeAt g (o + j * 14) e.cells) := QE.out w3 HB3.out
          have HBD := hidp (below_drewN HB3.out 1)
          have HOD := hidp (ownsRow_below HO3.out (below_drewN (Below.refl w3.heap.size w3) 1) (Nat.le_refl _))
          have l1 := L1.out
          by_cases hq : e.p = x.p
          · have HF := hidp (show O ++ putR x true (E.drop (j + 1)) = putR x false E by rw [← HREL2.out, if_neg (fun h => h hq)]; rfl)
            simp only [decide_eq_true hq] at hE
            clear hq
            go_region
            go_wp2
            go_roundw
            case rel => exact ⟨j + 1, O, true, by omega, rfl, by go_num, HOD, HF, by rw [if_pos rfl]; have := HLEN2.out; (try simp only [List.length_append, List.length_cons, List.length_nil]); omega, HBD⟩
            case measure => simp [intOf]; omega
          · have HF := hidp (show (O ++ [e]) ++ putR x true (E.drop (j + 1)) = putR x false E by rw [← HREL2.out, if_pos hq, List.append_assoc])
            simp only [decide_eq_false hq] at hE
            clear hq
            have hie : Hid ((Try.prog.info? 63).map (·.size) = some e.cells.length) := Try.info63
            have hl14 : e.cells.length = 14 := En.len e
            have hlen : (O).length ≤ j + 1 := by have := HLEN2.out; (try simp only [List.length_append, List.length_cons, List.length_nil]); omega
            have HO20 := hidp (ownsRow_below HOD.out ((Below.refl w3.drew.heap.size w3.drew).alloc (Nat.le_refl _) (.cells e.cells.toArray 63)) (Nat.le_refl _))
            have HB20 := hidp (HBD.out.trans (((Below.refl w3.drew.heap.size w3.drew).alloc (Nat.le_refl _) (.cells e.cells.toArray 63)).mono HBD.out.size))
            go_region
            go_wp2_with (first
              | (with_reducible refine wpList_load_mid rfl 63 (.tmp 42) rfl g (o + j * 14) rfl e.cells _ QD.out Try.underlying63 rfl hie.out ?_)
              | (at_builtin; go_must (
                 rw [foldEn2]
                 refine wpList_append_own_at (w3.drew.alloc (.cells e.cells.toArray 63)) rfl (.tmp 39) (.tmp 44) 27 rfl w1.heap.size 63 i0 zero63 14 144 Try.underlying27 hi0 hz0 hz1 hz2 rfl (by omega) u5 _ _ rfl HO20.out ⟨w3.drew.heap.size, 0, none⟩ 1 1 e.cells rfl rfl (ens_new (heap_alloc_new w3.drew _)) e.one (by simp only [maxLen]; omega) (by omega) HB20.out.size ?_
                 intro o21 w21 hown hg _ hat
                 have HO21 : Hid (w21.ownsRow w1.heap.size 63 14 o21 (O ++ [e]).length ((O ++ [e]).flatMap En.cells)) := by
                   show World.ownsRow _ _ _ _ _ _ _
                   rw [List.length_append, List.flatMap_append]
                   simpa using hown
                 have HB21 := hidp (HB20.out.grown hg HB20.out.size fun k hk => (ownsRow_blk HO20.out k hk).1)
                 clear hown hg hat)))
            go_roundw
            case rel => exact ⟨j + 1, O ++ [e], true, by omega, rfl, by go_num, HO21, HF, by rw [if_pos rfl]; have := HLEN2.out; (try simp only [List.length_append, List.length_cons, List.length_nil]); omega, HB21⟩
            case measure => simp [intOf]; omega
      | false =>
        by_cases hc : ltP e.p x.p
        · have HCD := hidp hc
          have HLE := hidp (show ¬ cmp2 x.p e.p ≤ 0 from fun h => (cmp2_le _ _).1 h hc)
          clear hc
          go_upto_region 6 with (fail)
          refine wp_region_flow2 (fun iqv => ([(.bool false : Value), (.bool true : Value), (.bool true : Value), (.pointer (some ⟨w.heap.size, 0, none⟩) : Value), (.agg #[.int .u32 (x.p.a : Int), .int .i64 x.p.l] : Value), (.slice (some ⟨g, o, none⟩) n c : Value), (.int .i64 (j : Int) : Value), (.pointer (some ⟨g, o + j * 14, none⟩) : Value), (.pointer (some ⟨g, o + j * 14, none⟩) : Value), (.agg #[.int .u32 (e.p.a : Int), .int .i64 e.p.l] : Value), (.int .i64 (cmp2 x.p e.p) : Value), (.bool false : Value), (.bool false : Value)] : List Value).getD iqv undef) [(some 14, .bool false), (some 15, .bool true), (some 16, .bool true), (some 17, .pointer (some ⟨w.heap.size, 0, none⟩)), (some 18, .agg #[.int .u32 (x.p.a : Int), .int .i64 x.p.l]), (some 19, .slice (some ⟨g, o, none⟩) n c), (some 20, .int .i64 (j : Int)), (some 21, .pointer (some ⟨g, o + j * 14, none⟩)), (some 22, .pointer (some ⟨g, o + j * 14, none⟩)), (some 23, .agg #[.int .u32 (e.p.a : Int), .int .i64 e.p.l]), (some 24, .int .i64 (cmp2 x.p e.p)), (some 25, .bool false), (some 26, .bool false)] (fun W : World => Below wr.heap.size wr W) (by kernel_rfl) (by kernel_rfl) ((Below.refl _ _).drew) (fun iq hiq => ?_) (by kernel_rfl) (fun W hSW => ?_)
          · match iq, hiq with
            | 0, _ =>
              intro aq W hSW hf
              have v6 : aq.tmps[6]? = some (.bool false) := (hf.at_base 6 (by kernel_rfl)).trans rfl
              clear hf
              refine wpOp_flow rfl (by rfl) (fun Kq hK => ?_)
              go_simp
              exact hK _ _ ⟨rfl, hSW⟩
            | 1, _ =>
              intro aq W hSW hf
              have v14 : aq.tmps[14]? = some (.bool false) := hf.val 0 14 (by kernel_rfl) rfl
              clear hf
              refine wpOp_flow rfl (by rfl) (fun Kq hK => ?_)
              go_simp
              exact hK _ _ ⟨rfl, hSW⟩
            | 2, _ =>
              intro aq W hSW hf
              have v15 : aq.tmps[15]? = some (.bool true) := hf.val 1 15 (by kernel_rfl) rfl
              clear hf
              refine wpOp_flow rfl (by rfl) (fun Kq hK => ?_)
              go_simp
              exact hK _ _ ⟨rfl, hSW⟩
            | 3, _ =>
              intro aq W hSW hf
              have v3 : aq.tmps[3]? = some (.pointer (some ⟨w.heap.size, 0, none⟩)) := (hf.at_base 3 (by kernel_rfl)).trans rfl
              have v16 : aq.tmps[16]? = some (.bool true) := hf.val 2 16 (by kernel_rfl) rfl
              clear hf
              refine wpOp_flow rfl (wanted_of rfl rfl v16) (fun Kq hK => ?_)
              go_simp
              exact hK _ _ ⟨rfl, hSW⟩
            | 4, _ =>
              intro aq W hSW hf
              have v16 : aq.tmps[16]? = some (.bool true) := hf.val 2 16 (by kernel_rfl) rfl
              have v17 : aq.tmps[17]? = some (.pointer (some ⟨w.heap.size, 0, none⟩)) := hf.val 3 17 (by kernel_rfl) rfl
              clear hf
              refine wpOp_flow rfl (wanted_of rfl rfl v16) (fun Kq hK => ?_)
              have kx := KX.out W (HB1.out.trans (hSW.mono HB1.out.size))
              have d0 := cellOf kx 0 (v := .int .u32 (x.p.a : Int)) rfl
              have d1 := cellOf kx 1 (v := .int .i64 x.p.l) rfl
              go_simp
              exact hK _ _ ⟨rfl, hSW⟩
            | 5, _ =>
              intro aq W hSW hf
              have v0 : aq.tmps[0]? = some (.slice (some ⟨g, o, none⟩) n c) := (hf.at_base 0 (by kernel_rfl)).trans rfl
              have v16 : aq.tmps[16]? = some (.bool true) := hf.val 2 16 (by kernel_rfl) rfl
              clear hf
              refine wpOp_flow rfl (wanted_of rfl rfl v16) (fun Kq hK => ?_)
              go_simp
              exact hK _ _ ⟨rfl, hSW⟩
            | 6, _ =>
              intro aq W hSW hf
              have v7 : aq.tmps[7]? = some (.int .i64 (j : Int)) := (hf.at_base 7 (by kernel_rfl)).trans rfl
              have v16 : aq.tmps[16]? = some (.bool true) := hf.val 2 16 (by kernel_rfl) rfl
              clear hf
              refine wpOp_flow rfl (wanted_of rfl rfl v16) (fun Kq hK => ?_)
              go_simp
              exact hK _ _ ⟨rfl, hSW⟩
            | 7, _ =>
              intro aq W hSW hf
              have v16 : aq.tmps[16]? = some (.bool true) := hf.val 2 16 (by kernel_rfl) rfl
              have v19 : aq.tmps[19]? = some (.slice (some ⟨g, o, none⟩) n c) := hf.val 5 19 (by kernel_rfl) rfl
              have v20 : aq.tmps[20]? = some (.int .i64 (j : Int)) := hf.val 6 20 (by kernel_rfl) rfl
              clear hf
              refine wpOp_flow rfl (wanted_of rfl rfl v16) (fun Kq hK => ?_)
              have l1 := L1.out
              go_simp
              exact hK _ _ ⟨rfl, hSW⟩
            | 8, _ =>
              intro aq W hSW hf
              have v16 : aq.tmps[16]? = some (.bool true) := hf.val 2 16 (by kernel_rfl) rfl
              have v21 : aq.tmps[21]? = some (.pointer (some ⟨g, o + j * 14, none⟩)) := hf.val 7 21 (by kernel_rfl) rfl
              clear hf
              refine wpOp_flow rfl (wanted_of rfl rfl v16) (fun Kq hK => ?_)
              go_simp
              exact hK _ _ ⟨rfl, hSW⟩
            | 9, _ =>
              intro aq W hSW hf
              have v16 : aq.tmps[16]? = some (.bool true) := hf.val 2 16 (by kernel_rfl) rfl
              have v22 : aq.tmps[22]? = some (.pointer (some ⟨g, o + j * 14, none⟩)) := hf.val 8 22 (by kernel_rfl) rfl
              clear hf
              refine wpOp_flow rfl (wanted_of rfl rfl v16) (fun Kq hK => ?_)
              have c0 : W.cell? ⟨g, o + j * 14, none⟩ = some (.int .u32 (e.p.a : Int)) := QE.out W (HB1.out.trans (hSW.mono HB1.out.size)) 0 _ rfl
              have c1 : W.cell? ⟨g, o + j * 14 + 1, none⟩ = some (.int .i64 e.p.l) := QE.out W (HB1.out.trans (hSW.mono HB1.out.size)) 1 _ rfl
              go_simp
              exact hK _ _ ⟨rfl, hSW⟩
            | 10, _ =>
              intro aq W hSW hf
              have v16 : aq.tmps[16]? = some (.bool true) := hf.val 2 16 (by kernel_rfl) rfl
              have v18 : aq.tmps[18]? = some (.agg #[.int .u32 (x.p.a : Int), .int .i64 x.p.l]) := hf.val 4 18 (by kernel_rfl) rfl
              have v23 : aq.tmps[23]? = some (.agg #[.int .u32 (e.p.a : Int), .int .i64 e.p.l]) := hf.val 9 23 (by kernel_rfl) rfl
              clear hf
              refine wpOp_flow rfl (wanted_of rfl rfl v16) (fun Kq hK => ?_)
              go_simp
              refine (HC.out W).mono ?_
              rintro e1 w19 ⟨rfl, B19⟩
              exact hK _ _ ⟨rfl, hSW.trans (B19.mono hSW.size)⟩
            | 11, _ =>
              intro aq W hSW hf
              have v16 : aq.tmps[16]? = some (.bool true) := hf.val 2 16 (by kernel_rfl) rfl
              have v24 : aq.tmps[24]? = some (.int .i64 (cmp2 x.p e.p)) := hf.val 10 24 (by kernel_rfl) rfl
              clear hf
              refine wpOp_flow rfl (wanted_of rfl rfl v16) (fun Kq hK => ?_)
              have hle := HLE.out
              go_simp
              exact hK _ _ ⟨rfl, hSW⟩
            | 12, _ =>
              intro aq W hSW hf
              have v16 : aq.tmps[16]? = some (.bool true) := hf.val 2 16 (by kernel_rfl) rfl
              have v25 : aq.tmps[25]? = some (.bool false) := hf.val 11 25 (by kernel_rfl) rfl
              clear hf
              refine wpOp_flow rfl (by rfl) (fun Kq hK => ?_)
              go_simp
              exact hK _ _ ⟨rfl, hSW⟩
            | kq + 13, hk => exact absurd hk (by first | omega | (intro h; simp at h; omega))
          · simp only [puts, Act.put, List.setIfInBounds_toArray, List.set_cons_zero, List.set_cons_succ]
            obtain ⟨w3, rfl⟩ : ∃ w3, w3 = W := ⟨_, rfl⟩
            have HO3 := hidp (ownsRow_below HO.out hSW (Nat.le_refl _))
            have HB3 := hidp (HB1.out.trans (hSW.mono HB1.out.size))
            clear hSW
            go_upto_region 9 with (fail)
            have HREL2 := hidp (show O ++ ((if e.p ≠ x.p then [e] else []) ++ putR x false (E.drop (j + 1))) = putR x false E by rw [← HREL.out, putR_n HCD.out])
            have HLEN2 := hidp (show O.length ≤ j from HLENF.out rfl)
            have c0 : w3.cell? ⟨g, o + j * 14, none⟩ = some (.int .u32 (e.p.a : Int)) := QE.out w3 HB3.out 0 _ rfl
            have c1 : w3.cell? ⟨g, o + j * 14 + 1, none⟩ = some (.int .i64 e.p.l) := QE.out w3 HB3.out 1 _ rfl
            have d0 : w3.cell? ⟨w.heap.size, 0, none⟩ = some (.int .u32 (x.p.a : Int)) := cellOf (KX.out w3 HB3.out) 0 rfl
            have d1 : w3.cell? ⟨w.heap.size, 1, none⟩ = some (.int .i64 x.p.l) := cellOf (KX.out w3 HB3.out) 1 rfl
            have hE : ∀ w, (Op.equalIn 10000 44 (.agg #[.int .u32 (e.p.a : Int), .int .i64 e.p.l]) (.agg #[.int .u32 (x.p.a : Int), .int .i64 x.p.l])).run Try.prog w = .ok (decide (e.p = x.p)) w := equal44 e.p x.p
            have QD : Hid (w3.drew.rangeAt g (o + j * 14) e.cells) := QE.out w3 HB3.out
            have HBD := hidp (below_drewN HB3.out 1)
            have HOD := hidp (ownsRow_below HO3.out (below_drewN (Below.refl w3.heap.size w3) 1) (Nat.le_refl _))
            have l1 := L1.out
            by_cases hq : e.p = x.p
            · have HF := hidp (show O ++ putR x false (E.drop (j + 1)) = putR x false E by rw [← HREL2.out, if_neg (fun h => h hq)]; rfl)
              simp only [decide_eq_true hq] at hE
              clear hq
              go_region
              go_wp2
              go_roundw
              case rel => exact ⟨j + 1, O, false, by omega, rfl, by go_num, HOD, HF, by rw [if_neg (by decide)]; have := HLEN2.out; (try simp only [List.length_append, List.length_cons, List.length_nil]); omega, HBD⟩
              case measure => simp [intOf]; omega
            · have HF := hidp (show (O ++ [e]) ++ putR x false (E.drop (j + 1)) = putR x false E by rw [← HREL2.out, if_pos hq, List.append_assoc])
              simp only [decide_eq_false hq] at hE
              clear hq
              have hie : Hid ((Try.prog.info? 63).map (·.size) = some e.cells.length) := Try.info63
              have hl14 : e.cells.length = 14 := En.len e
              have hlen : (O).length ≤ j + 1 := by have := HLEN2.out; (try simp only [List.length_append, List.length_cons, List.length_nil]); omega
              have HO20 := hidp (ownsRow_below HOD.out ((Below.refl w3.drew.heap.size w3.drew).alloc (Nat.le_refl _) (.cells e.cells.toArray 63)) (Nat.le_refl _))
              have HB20 := hidp (HBD.out.trans (((Below.refl w3.drew.heap.size w3.drew).alloc (Nat.le_refl _) (.cells e.cells.toArray 63)).mono HBD.out.size))
              go_region
              go_wp2_with (first
                | (with_reducible refine wpList_load_mid rfl 63 (.tmp 42) rfl g (o + j * 14) rfl e.cells _ QD.out Try.underlying63 rfl hie.out ?_)
                | (at_builtin; go_must (
                   rw [foldEn2]
                   refine wpList_append_own_at (w3.drew.alloc (.cells e.cells.toArray 63)) rfl (.tmp 39) (.tmp 44) 27 rfl w1.heap.size 63 i0 zero63 14 144 Try.underlying27 hi0 hz0 hz1 hz2 rfl (by omega) u5 _ _ rfl HO20.out ⟨w3.drew.heap.size, 0, none⟩ 1 1 e.cells rfl rfl (ens_new (heap_alloc_new w3.drew _)) e.one (by simp only [maxLen]; omega) (by omega) HB20.out.size ?_
                   intro o21 w21 hown hg _ hat
                   have HO21 : Hid (w21.ownsRow w1.heap.size 63 14 o21 (O ++ [e]).length ((O ++ [e]).flatMap En.cells)) := by
                     show World.ownsRow _ _ _ _ _ _ _
                     rw [List.length_append, List.flatMap_append]
                     simpa using hown
                   have HB21 := hidp (HB20.out.grown hg HB20.out.size fun k hk => (ownsRow_blk HO20.out k hk).1)
                   clear hown hg hat)))
              go_roundw
              case rel => exact ⟨j + 1, O ++ [e], false, by omega, rfl, by go_num, HO21, HF, by rw [if_neg (by decide)]; have := HLEN2.out; (try simp only [List.length_append, List.length_cons, List.length_nil]); omega, HB21⟩
              case measure => simp [intOf]; omega
        · have HCD := hidp hc
          have HLE := hidp ((cmp2_le x.p e.p).2 hc)
          clear hc
          go_upto_region 6 with (fail)
          refine wp_region_flow2 (fun iqv => ([(.bool false : Value), (.bool true : Value), (.bool true : Value), (.pointer (some ⟨w.heap.size, 0, none⟩) : Value), (.agg #[.int .u32 (x.p.a : Int), .int .i64 x.p.l] : Value), (.slice (some ⟨g, o, none⟩) n c : Value), (.int .i64 (j : Int) : Value), (.pointer (some ⟨g, o + j * 14, none⟩) : Value), (.pointer (some ⟨g, o + j * 14, none⟩) : Value), (.agg #[.int .u32 (e.p.a : Int), .int .i64 e.p.l] : Value), (.int .i64 (cmp2 x.p e.p) : Value), (.bool true : Value), (.bool true : Value)] : List Value).getD iqv undef) [(some 14, .bool false), (some 15, .bool true), (some 16, .bool true), (some 17, .pointer (some ⟨w.heap.size, 0, none⟩)), (some 18, .agg #[.int .u32 (x.p.a : Int), .int .i64 x.p.l]), (some 19, .slice (some ⟨g, o, none⟩) n c), (some 20, .int .i64 (j : Int)), (some 21, .pointer (some ⟨g, o + j * 14, none⟩)), (some 22, .pointer (some ⟨g, o + j * 14, none⟩)), (some 23, .agg #[.int .u32 (e.p.a : Int), .int .i64 e.p.l]), (some 24, .int .i64 (cmp2 x.p e.p)), (some 25, .bool true), (some 26, .bool true)] (fun W : World => Below wr.heap.size wr W) (by kernel_rfl) (by kernel_rfl) ((Below.refl _ _).drew) (fun iq hiq => ?_) (by kernel_rfl) (fun W hSW => ?_)
          · match iq, hiq with
            | 0, _ =>
              intro aq W hSW hf
              have v6 : aq.tmps[6]? = some (.bool false) := (hf.at_base 6 (by kernel_rfl)).trans rfl
              clear hf
              refine wpOp_flow rfl (by rfl) (fun Kq hK => ?_)
              go_simp
              exact hK _ _ ⟨rfl, hSW⟩
            | 1, _ =>
              intro aq W hSW hf
              have v14 : aq.tmps[14]? = some (.bool false) := hf.val 0 14 (by kernel_rfl) rfl
              clear hf
              refine wpOp_flow rfl (by rfl) (fun Kq hK => ?_)
              go_simp
              exact hK _ _ ⟨rfl, hSW⟩
            | 2, _ =>
              intro aq W hSW hf
              have v15 : aq.tmps[15]? = some (.bool true) := hf.val 1 15 (by kernel_rfl) rfl
              clear hf
              refine wpOp_flow rfl (by rfl) (fun Kq hK => ?_)
              go_simp
              exact hK _ _ ⟨rfl, hSW⟩
            | 3, _ =>
              intro aq W hSW hf
              have v3 : aq.tmps[3]? = some (.pointer (some ⟨w.heap.size, 0, none⟩)) := (hf.at_base 3 (by kernel_rfl)).trans rfl
              have v16 : aq.tmps[16]? = some (.bool true) := hf.val 2 16 (by kernel_rfl) rfl
              clear hf
              refine wpOp_flow rfl (wanted_of rfl rfl v16) (fun Kq hK => ?_)
              go_simp
              exact hK _ _ ⟨rfl, hSW⟩
            | 4, _ =>
              intro aq W hSW hf
              have v16 : aq.tmps[16]? = some (.bool true) := hf.val 2 16 (by kernel_rfl) rfl
              have v17 : aq.tmps[17]? = some (.pointer (some ⟨w.heap.size, 0, none⟩)) := hf.val 3 17 (by kernel_rfl) rfl
              clear hf
              refine wpOp_flow rfl (wanted_of rfl rfl v16) (fun Kq hK => ?_)
              have kx := KX.out W (HB1.out.trans (hSW.mono HB1.out.size))
              have d0 := cellOf kx 0 (v := .int .u32 (x.p.a : Int)) rfl
              have d1 := cellOf kx 1 (v := .int .i64 x.p.l) rfl
              go_simp
              exact hK _ _ ⟨rfl, hSW⟩
            | 5, _ =>
              intro aq W hSW hf
              have v0 : aq.tmps[0]? = some (.slice (some ⟨g, o, none⟩) n c) := (hf.at_base 0 (by kernel_rfl)).trans rfl
              have v16 : aq.tmps[16]? = some (.bool true) := hf.val 2 16 (by kernel_rfl) rfl
              clear hf
              refine wpOp_flow rfl (wanted_of rfl rfl v16) (fun Kq hK => ?_)
              go_simp
              exact hK _ _ ⟨rfl, hSW⟩
            | 6, _ =>
              intro aq W hSW hf
              have v7 : aq.tmps[7]? = some (.int .i64 (j : Int)) := (hf.at_base 7 (by kernel_rfl)).trans rfl
              have v16 : aq.tmps[16]? = some (.bool true) := hf.val 2 16 (by kernel_rfl) rfl
              clear hf
              refine wpOp_flow rfl (wanted_of rfl rfl v16) (fun Kq hK => ?_)
              go_simp
              exact hK _ _ ⟨rfl, hSW⟩
            | 7, _ =>
              intro aq W hSW hf
              have v16 : aq.tmps[16]? = some (.bool true) := hf.val 2 16 (by kernel_rfl) rfl
              have v19 : aq.tmps[19]? = some (.slice (some ⟨g, o, none⟩) n c) := hf.val 5 19 (by kernel_rfl) rfl
              have v20 : aq.tmps[20]? = some (.int .i64 (j : Int)) := hf.val 6 20 (by kernel_rfl) rfl
              clear hf
              refine wpOp_flow rfl (wanted_of rfl rfl v16) (fun Kq hK => ?_)
              have l1 := L1.out
              go_simp
              exact hK _ _ ⟨rfl, hSW⟩
            | 8, _ =>
              intro aq W hSW hf
              have v16 : aq.tmps[16]? = some (.bool true) := hf.val 2 16 (by kernel_rfl) rfl
              have v21 : aq.tmps[21]? = some (.pointer (some ⟨g, o + j * 14, none⟩)) := hf.val 7 21 (by kernel_rfl) rfl
              clear hf
              refine wpOp_flow rfl (wanted_of rfl rfl v16) (fun Kq hK => ?_)
              go_simp
              exact hK _ _ ⟨rfl, hSW⟩
            | 9, _ =>
              intro aq W hSW hf
              have v16 : aq.tmps[16]? = some (.bool true) := hf.val 2 16 (by kernel_rfl) rfl
              have v22 : aq.tmps[22]? = some (.pointer (some ⟨g, o + j * 14, none⟩)) := hf.val 8 22 (by kernel_rfl) rfl
              clear hf
              refine wpOp_flow rfl (wanted_of rfl rfl v16) (fun Kq hK => ?_)
              have c0 : W.cell? ⟨g, o + j * 14, none⟩ = some (.int .u32 (e.p.a : Int)) := QE.out W (HB1.out.trans (hSW.mono HB1.out.size)) 0 _ rfl
              have c1 : W.cell? ⟨g, o + j * 14 + 1, none⟩ = some (.int .i64 e.p.l) := QE.out W (HB1.out.trans (hSW.mono HB1.out.size)) 1 _ rfl
              go_simp
              exact hK _ _ ⟨rfl, hSW⟩
            | 10, _ =>
              intro aq W hSW hf
              have v16 : aq.tmps[16]? = some (.bool true) := hf.val 2 16 (by kernel_rfl) rfl
              have v18 : aq.tmps[18]? = some (.agg #[.int .u32 (x.p.a : Int), .int .i64 x.p.l]) := hf.val 4 18 (by kernel_rfl) rfl
              have v23 : aq.tmps[23]? = some (.agg #[.int .u32 (e.p.a : Int), .int .i64 e.p.l]) := hf.val 9 23 (by kernel_rfl) rfl
              clear hf
              refine wpOp_flow rfl (wanted_of rfl rfl v16) (fun Kq hK => ?_)
              go_simp
              refine (HC.out W).mono ?_
              rintro e1 w19 ⟨rfl, B19⟩
              exact hK _ _ ⟨rfl, hSW.trans (B19.mono hSW.size)⟩
            | 11, _ =>
              intro aq W hSW hf
              have v16 : aq.tmps[16]? = some (.bool true) := hf.val 2 16 (by kernel_rfl) rfl
              have v24 : aq.tmps[24]? = some (.int .i64 (cmp2 x.p e.p)) := hf.val 10 24 (by kernel_rfl) rfl
              clear hf
              refine wpOp_flow rfl (wanted_of rfl rfl v16) (fun Kq hK => ?_)
              have hle := HLE.out
              go_simp
              exact hK _ _ ⟨rfl, hSW⟩
            | 12, _ =>
              intro aq W hSW hf
              have v16 : aq.tmps[16]? = some (.bool true) := hf.val 2 16 (by kernel_rfl) rfl
              have v25 : aq.tmps[25]? = some (.bool true) := hf.val 11 25 (by kernel_rfl) rfl
              clear hf
              refine wpOp_flow rfl (by rfl) (fun Kq hK => ?_)
              go_simp
              exact hK _ _ ⟨rfl, hSW⟩
            | kq + 13, hk => exact absurd hk (by first | omega | (intro h; simp at h; omega))
          · simp only [puts, Act.put, List.setIfInBounds_toArray, List.set_cons_zero, List.set_cons_succ]
            obtain ⟨w3, rfl⟩ : ∃ w3, w3 = W := ⟨_, rfl⟩
            have HO3 := hidp (ownsRow_below HO.out hSW (Nat.le_refl _))
            have HB3 := hidp (HB1.out.trans (hSW.mono HB1.out.size))
            clear hSW
            have hlx : x.cells.length = 14 := En.len x
            have hix : Hid ((Try.prog.info? 63).map (·.size) = some x.cells.toArray.size) := Try.info63
            have hlen := HLEN.out
            have HO4 := hidp (ownsRow_below HO3.out ((Below.refl w3.heap.size w3).alloc (Nat.le_refl _) (.cells x.cells.toArray 63)) (Nat.le_refl _))
            have HB4 := hidp (HB3.out.trans (((Below.refl w3.heap.size w3).alloc (Nat.le_refl _) (.cells x.cells.toArray 63)).mono HB3.out.size))
            have KW : Hid (w3.heap[w.heap.size]? = some (.cells x.cells.toArray 63 (0, 0))) := KX.out w3 HB3.out
            go_upto_region 9 with (first
              | (with_reducible refine wpList_load_row rfl 63 (.tmp 3) rfl w.heap.size rfl 63 x.cells.toArray (0, 0) _ KW.out Try.underlying63 rfl hix.out ?_)
              | (at_builtin; go_must (
                 rw [foldEn2]
                 refine wpList_append_own_at (w3.alloc (.cells x.cells.toArray 63)) rfl (.tmp 27) (.tmp 29) 27 rfl w1.heap.size 63 i0 zero63 14 144 Try.underlying27 hi0 hz0 hz1 hz2 rfl (by omega) u5 _ _ rfl HO4.out ⟨w3.heap.size, 0, none⟩ 1 1 x.cells rfl rfl (ens_new (heap_alloc_new w3 _)) x.one (by simp only [maxLen]; omega) (by omega) HB4.out.size ?_
                 intro o5 w5 hown hg _ hat
                 have HO5 : Hid (w5.ownsRow w1.heap.size 63 14 o5 (O ++ [x]).length ((O ++ [x]).flatMap En.cells)) := by
                   show World.ownsRow _ _ _ _ _ _ _
                   rw [List.length_append, List.flatMap_append]
                   simpa using hown
                 have HB5 := hidp (HB4.out.grown hg HB4.out.size fun k hk => (ownsRow_blk HO4.out k hk).1)
                 clear hown hg hat)))
            have HREL2 := hidp (show (O ++ [x]) ++ ((if e.p ≠ x.p then [e] else []) ++ putR x true (E.drop (j + 1))) = putR x false E by rw [← HREL.out, putR_i HCD.out, List.append_assoc]; rfl)
            have HLEN2 := hidp (show O.length + 1 ≤ j + 1 from Nat.succ_le_succ (HLENF.out rfl))
            have c0 : w5.cell? ⟨g, o + j * 14, none⟩ = some (.int .u32 (e.p.a : Int)) := QE.out w5 HB5.out 0 _ rfl
            have c1 : w5.cell? ⟨g, o + j * 14 + 1, none⟩ = some (.int .i64 e.p.l) := QE.out w5 HB5.out 1 _ rfl
            have d0 : w5.cell? ⟨w.heap.size, 0, none⟩ = some (.int .u32 (x.p.a : Int)) := cellOf (KX.out w5 HB5.out) 0 rfl
            have d1 : w5.cell? ⟨w.heap.size, 1, none⟩ = some (.int .i64 x.p.l) := cellOf (KX.out w5 HB5.out) 1 rfl
            have hE : ∀ w, (Op.equalIn 10000 44 (.agg #[.int .u32 (e.p.a : Int), .int .i64 e.p.l]) (.agg #[.int .u32 (x.p.a : Int), .int .i64 x.p.l])).run Try.prog w = .ok (decide (e.p = x.p)) w := equal44 e.p x.p
            have QD : Hid (w5.drew.rangeAt g (o + j * 14) e.cells) := QE.out w5 HB5.out
            have HBD := hidp (below_drewN HB5.out 1)
            have HOD := hidp (ownsRow_below HO5.out (below_drewN (Below.refl w5.heap.size w5) 1) (Nat.le_refl _))
            have l1 := L1.out
            by_cases hq : e.p = x.p
            · have HF := hidp (show (O ++ [x]) ++ putR x true (E.drop (j + 1)) = putR x false E by rw [← HREL2.out, if_neg (fun h => h hq)]; rfl)
              simp only [decide_eq_true hq] at hE
              clear hq
              go_region
              go_wp2
              go_roundw
              case rel => exact ⟨j + 1, (O ++ [x]), true, by omega, rfl, by go_num, HOD, HF, by rw [if_pos rfl]; have := HLEN2.out; (try simp only [List.length_append, List.length_cons, List.length_nil]); omega, HBD⟩
              case measure => simp [intOf]; omega
            · have HF := hidp (show ((O ++ [x]) ++ [e]) ++ putR x true (E.drop (j + 1)) = putR x false E by rw [← HREL2.out, if_pos hq, List.append_assoc])
              simp only [decide_eq_false hq] at hE
              clear hq
              have hie : Hid ((Try.prog.info? 63).map (·.size) = some e.cells.length) := Try.info63
              have hl14 : e.cells.length = 14 := En.len e
              have hlen : ((O ++ [x])).length ≤ j + 1 := by have := HLEN2.out; (try simp only [List.length_append, List.length_cons, List.length_nil]); omega
              have HO20 := hidp (ownsRow_below HOD.out ((Below.refl w5.drew.heap.size w5.drew).alloc (Nat.le_refl _) (.cells e.cells.toArray 63)) (Nat.le_refl _))
              have HB20 := hidp (HBD.out.trans (((Below.refl w5.drew.heap.size w5.drew).alloc (Nat.le_refl _) (.cells e.cells.toArray 63)).mono HBD.out.size))
              go_region
              go_wp2_with (first
                | (with_reducible refine wpList_load_mid rfl 63 (.tmp 42) rfl g (o + j * 14) rfl e.cells _ QD.out Try.underlying63 rfl hie.out ?_)
                | (at_builtin; go_must (
                   rw [foldEn2]
                   refine wpList_append_own_at (w5.drew.alloc (.cells e.cells.toArray 63)) rfl (.tmp 39) (.tmp 44) 27 rfl w1.heap.size 63 i0 zero63 14 144 Try.underlying27 hi0 hz0 hz1 hz2 rfl (by omega) o5 _ _ rfl HO20.out ⟨w5.drew.heap.size, 0, none⟩ 1 1 e.cells rfl rfl (ens_new (heap_alloc_new w5.drew _)) e.one (by simp only [maxLen]; omega) (by omega) HB20.out.size ?_
                   intro o21 w21 hown hg _ hat
                   have HO21 : Hid (w21.ownsRow w1.heap.size 63 14 o21 ((O ++ [x]) ++ [e]).length (((O ++ [x]) ++ [e]).flatMap En.cells)) := by
                     show World.ownsRow _ _ _ _ _ _ _
                     rw [List.length_append, List.flatMap_append]
                     simpa using hown
                   have HB21 := hidp (HB20.out.grown hg HB20.out.size fun k hk => (ownsRow_blk HO20.out k hk).1)
                   clear hown hg hat)))
              go_roundw
              case rel => exact ⟨j + 1, (O ++ [x]) ++ [e], true, by omega, rfl, by go_num, HO21, HF, by rw [if_pos rfl]; have := HLEN2.out; (try simp only [List.length_append, List.length_cons, List.length_nil]); omega, HB21⟩
              case measure => simp [intOf]; omega
    · have l1 : ¬ (j : Int) < (n : Int) := by omega
      have hjn : j = n := by omega
      have hrel := HREL.out
      rw [List.drop_of_length_le (by rw [H.out.len]; omega)] at hrel
      have hok : ∀ e ∈ putR x false E, e.p.ok ∧ e.att.at wA := fun e he => by
        rcases (mem_putR x E e).1 he with rfl | ⟨he, -⟩
        · exact hx
        · exact H.out.ok e he
      have HOK := hidp hok
      cases dn with
      | true =>
        have hO : O = putR x false E := by rw [← hrel]; simp [putR]
        have HE := hidp (EnE.of_own (wA := wA) (E := putR x false E) (by rw [← hO]; exact HO.out) HOK.out)
        clear hrel hO hok
        go_wp2
        go_ret
        exact ⟨HE.out, HB.out.trans (HB1.out.mono HB.out.size)⟩
      | false =>
        have hO : O ++ [x] = putR x false E := by rw [← hrel]; simp [putR]
        have HOO := hidp hO
        have hlx : x.cells.length = 14 := En.len x
        have hix : Hid ((Try.prog.info? 63).map (·.size) = some x.cells.toArray.size) := Try.info63
        have hlen := HLEN.out
        have HO4 := hidp (ownsRow_below HO.out ((Below.refl wr.heap.size wr).alloc (Nat.le_refl _) (.cells x.cells.toArray 63)) (Nat.le_refl _))
        have HB4 := hidp (HB1.out.trans (((Below.refl wr.heap.size wr).alloc (Nat.le_refl _) (.cells x.cells.toArray 63)).mono HB1.out.size))
        have KW : Hid (wr.heap[w.heap.size]? = some (.cells x.cells.toArray 63 (0, 0))) := KX.out wr HB1.out
        clear hrel hO hok
        go_wp2_with (first
          | (with_reducible refine wpList_load_row rfl 63 (.tmp 3) rfl w.heap.size rfl 63 x.cells.toArray (0, 0) _ KW.out Try.underlying63 rfl hix.out ?_)
          | (at_builtin; go_must (
             rw [foldEn2]
             refine wpList_append_own_at (wr.alloc (.cells x.cells.toArray 63)) rfl (.tmp 48) (.tmp 50) 27 rfl w1.heap.size 63 i0 zero63 14 144 Try.underlying27 hi0 hz0 hz1 hz2 rfl (by omega) u5 _ _ rfl HO4.out ⟨wr.heap.size, 0, none⟩ 1 1 x.cells rfl rfl (ens_new (heap_alloc_new wr _)) x.one (by simp only [maxLen]; omega) (by omega) HB4.out.size ?_
             intro o5 w5 hown hg _ hat
             have HE : Hid (EnE wA (putR x false E) (.returned o5) w5) := by
               refine EnE.of_own (base := w1.heap.size) ?_ HOK.out
               rw [← HOO.out, List.length_append, List.flatMap_append]
               simpa using hown
             have HB5 := hidp (HB4.out.grown hg HB4.out.size fun k hk => (ownsRow_blk HO4.out k hk).1)
             clear hown hg hat)))
        go_ret
        exact ⟨HE.out, HB.out.trans (HB5.out.mono HB.out.size)⟩
end Go.Proofs.Ytnenpfalhbbadaa
