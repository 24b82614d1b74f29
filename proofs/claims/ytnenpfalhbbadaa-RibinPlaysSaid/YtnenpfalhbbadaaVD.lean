/- The document's Changed. -/
import Derived.Test.YtnenpfalhbbadaaVB
import Derived.Test.YtnenpfalhbbadaaSB
namespace Go.Proofs.Ytnenpfalhbbadaa
open Go.RowKit

theorem getL_at {wA : World} {E : List En} (h : ∀ e ∈ E, e.p.ok ∧ e.att.at wA) (p : Pf) : (getL E p).1.at wA := by
  induction E with
  | nil => exact att0_at wA
  | cons x r ih =>
    rw [getL]
    split
    · exact (h x List.mem_cons_self).2
    · exact ih fun e he => h e (List.mem_cons_of_mem _ he)
theorem allR_ok {wA : World} (old : List En) : ∀ (l all : List En), (∀ e ∈ all, e.p.ok ∧ e.att.at wA) → (∀ e ∈ l, e.p.ok ∧ e.att.at wA) → ∀ e ∈ allR old all l, e.p.ok ∧ e.att.at wA
  | [], all, h, _ => h
  | y :: r, all, h, hl => by
    rw [allR]
    refine allR_ok old r _ ?_ fun e he => hl e (List.mem_cons_of_mem _ he)
    split
    · intro e he
      rcases (mem_putR y all e).1 he with rfl | ⟨he, -⟩
      · exact hl e List.mem_cons_self
      · exact h e he
    · exact h
/-- the prefixes of those that are told of otherwise -/
def chgS (E F S : List En) : List Pf := (S.filter fun e => chgB E F e.p).map En.p
theorem chg_snoc (E F S : List En) (j : Nat) (h : j < S.length) : chgS E F (S.take (j + 1)) = chgS E F (S.take j) ++ if chgB E F S[j].p = true then [S[j].p] else [] := by
  unfold chgS
  rw [List.take_succ_eq_append_getElem h, List.filter_append, List.map_append]
  congr 1
  by_cases hp : chgB E F S[j].p = true <;> simp [hp]
theorem chgS_len (E F S : List En) : (chgS E F S).length ≤ S.length := by unfold chgS; rw [List.length_map]; exact List.length_filter_le _ _
def PfE (l : List Pf) (e : Ending) (W : World) : Prop := ∃ (a : Option Addr) (c : Nat), e = .returned (.slice a l.length c) ∧ PfsV W a l.length l
/-- while the second loop goes: what was, what is, all of both -/
structure CJ (wA w : World) (a b s : Option Addr) (n m k : Nat) (E F S : List En) (W : World) : Prop where
  bel : Below w.heap.size w W
  old : EnsV wA W a n E
  now : EnsV wA W b m F
  all : EnsV wA W s k S
  wA : Below wA.heap.size wA W
theorem CJ.below {wA w W W' : World} {a b s : Option Addr} {n m k : Nat} {E F S : List En} (h : CJ wA w a b s n m k E F S W) (hB : Below W.heap.size W W') : CJ wA w a b s n m k E F S W' :=
  ⟨h.bel.trans (hB.mono h.bel.size), h.old.below hB, h.now.below hB, h.all.below hB, h.wA.trans (hB.mono h.wA.size)⟩
set_option maxRecDepth 100000 in
set_option maxHeartbeats 16000000 in
theorem chg16_any (wA : World) (a b : Option Addr) (n m c d : Nat) (E F : List En) (w : World) (hE : EnsV wA w a n E) (hF : EnsV wA w b m F) (hn : n + m ≤ 1000) (hwA : Below wA.heap.size wA w) :
    Calls Try.prog 23 #[.slice a n c, .slice b m d] w fun e w' => PfE (chgR E F) e w' ∧ Below w.heap.size w w' := by
  obtain ⟨i0, hi0, hz0, hz1, hz2⟩ := info_parts Try.infos44
  have HE := hidp hE
  have HF := hidp hF
  have HW := hidp hwA
  clear hE hF hwA
  go_enter Try.func23, Try.ntmps23
  go_wp2
  go_loopw [6, 7] (fun x i wr => ∃ (j : Nat) (a6 : Option Addr) (n6 c6 : Nat) (S : List En), j ≤ m ∧ x = .slice a6 n6 c6 ∧ i = .int .i64 (j : Int) ∧ n6 ≤ n + j ∧ Hid (EnsV wA wr a6 n6 S) ∧ Hid (allR E S (F.drop j) = allR E E F) ∧ Hid (Below w.heap.size w wr)) (fun _ i _ => m - (intOf i).toNat)
  case atStart => exact ⟨0, a, n, c, E, by omega, rfl, rfl, by omega, HE.out, rfl, Below.refl _ _⟩
  case round =>
    obtain ⟨j, a6, n6, c6, S, hj, rfl, rfl, hn6, HS, HR, HB⟩ := hrel
    by_cases hlt : j < m
    · have l1 : (j : Int) < (m : Int) := by omega
      obtain ⟨g, o, rfl, hr⟩ := (HF.out.below HB.out).rows (by omega)
      have hjl : j < F.length := by rw [HF.out.len]; exact hlt
      have q1 := hr j hjl
      have hdr : F.drop j = F[j] :: F.drop (j + 1) := List.drop_eq_getElem_cons hjl
      have hok := HF.out.ok _ (List.getElem_mem hjl)
      generalize F[j] = e at *
      rw [hdr] at HR
      have c0 : wr.cell? ⟨g, o + j * 14, none⟩ = some (.int .u32 (e.p.a : Int)) := q1 0 _ rfl
      have c1 : wr.cell? ⟨g, o + j * 14 + 1, none⟩ = some (.int .i64 e.p.l) := q1 1 _ rfl
      have HQ1 := hidp q1
      obtain ⟨r, was, hgl⟩ : ∃ r was, getL E e.p = (r, was) := ⟨_, _, rfl⟩
      have HG := hidp (get16_any wA a n c E e.p wr (HE.out.below HB.out) (by omega))
      have HPU := hidp (fun W (h : EnsV wA W a6 n6 S) => put16_any wA a6 n6 c6 S e hok W h (by omega))
      have hrl := HR.out
      rw [allR, hgl] at hrl
      have HRL := hidp hrl
      have HPL := hidp (show (putR e false S).length ≤ n + (j + 1) by have := putR_len e S; have := dropL_len S e.p; have := HS.out.len; omega)
      have hpv : e.p.val = .agg #[.int .u32 (e.p.a : Int), .int .i64 e.p.l] := rfl
      have hav : r.val = .agg r.cells.toArray := rfl
      have hi0' : Hid ((Try.prog.info? 37).map (·.size) = some r.cells.toArray.size) := Try.info37
      have hie : Hid ((Try.prog.info? 63).map (·.size) = some e.cells.length) := Try.info63
      rw [hpv, hgl] at HG
      simp only [hav] at HG
      clear hr hdr hok hpv hav hrl hgl hjl HR q1
      go_upto_region 7 with (first
        | (go_at_call 32; go_must (
           refine HG.out.mono ?_
           rintro e1 w2 ⟨rfl, B2⟩
           have HB2 := hidp (HB.out.trans (B2.mono HB.out.size))
           have HS2 := hidp (HS.out.below B2)
           have HQ2 := hidp (show w2.rangeAt g (o + j * 14) e.cells from fun i v hv => below_cell B2 (Nat.le_refl _) _ _ (HQ1.out i v hv))
           clear B2 c0 c1))
        | (with_reducible refine wpList_store_row rfl 37 (.tmp 8) (.tmp 30) rfl w2.heap.size r.cells.toArray rfl rfl 37 _ (heap_alloc_new _ _) hi0'.out rfl r.all_one ?_
           rw [alloc_fill _ rfl]))
      have hb3 := (Below.refl w2.heap.size w2).alloc (Nat.le_refl _) (.cells r.cells.toArray 37)
      have HB3 := hidp (HB2.out.trans (hb3.mono HB2.out.size))
      have HS3 := hidp (HS2.out.below hb3)
      have HQ3 := hidp (show (w2.alloc (.cells r.cells.toArray 37)).rangeAt g (o + j * 14) e.cells from fun i v hv => below_cell hb3 (Nat.le_refl _) _ _ (HQ2.out i v hv))
      clear hb3
      change Code.wp Try.prog _ _ _ (w2.alloc (.cells r.cells.toArray 37))
      generalize w2.alloc (.cells r.cells.toArray 37) = w3 at *
      cases was with
      | true =>
        have HFI := hidp (show allR E S (F.drop (j + 1)) = allR E E F by rw [← HRL.out, if_neg (by decide)])
        clear HRL
        go_wp2
        go_roundw
        case rel => exact ⟨j + 1, a6, n6, c6, S, by omega, rfl, by go_num, by omega, HS3, HFI, HB3⟩
        case measure => simp [intOf]; omega
      | false =>
        have HFI := hidp (show allR E (putR e false S) (F.drop (j + 1)) = allR E E F by rw [← HRL.out, if_pos rfl])
        clear HRL
        go_wp2_with (first
          | (with_reducible refine wpList_load_mid rfl 63 (.tmp 37) rfl g (o + j * 14) rfl e.cells _ HQ3.out Try.underlying63 rfl hie.out ?_)
          | (go_at_call 34; go_must (
             refine (HPU.out _ HS3.out).mono ?_
             rintro e1 w5 ⟨⟨a9, c9, rfl, hD9⟩, B5⟩
             have HB5 := hidp (HB3.out.trans (B5.mono HB3.out.size))
             have HD9 := hidp hD9
             clear B5 hD9)))
        go_roundw
        case rel => exact ⟨j + 1, a9, _, c9, putR e false S, by omega, rfl, by go_num, HPL.out, HD9, HFI, HB5⟩
        case measure => simp [intOf]; omega
    · have l1 : ¬ (j : Int) < (m : Int) := by omega
      have hjn : j = m := by omega
      have hR := HR.out
      rw [List.drop_of_length_le (by rw [HF.out.len]; omega)] at hR
      have hRR : S = allR E E F := hR
      have HRES := hidp (show chgS E F S = chgR E F by rw [hRR]; rfl)
      have HJ := hidp (CJ.mk HB.out (HE.out.below HB.out) (HF.out.below HB.out) HS.out (HW.out.trans (HB.out.mono HW.out.size)))
      obtain ⟨w1, rfl⟩ : ∃ w1, w1 = wr := ⟨_, rfl⟩
      have hn62 : n6 ≤ 1000 := by omega
      clear hlt hj hR hRR HR HB HS hjn
      go_wp2
      go_loopw [5, 10] (fun v i wr => ∃ j : Nat, j ≤ n6 ∧ i = .int .i64 (j : Int) ∧ Hid (wr.ownsRow w1.heap.size 44 2 v (chgS E F (S.take j)).length ((chgS E F (S.take j)).flatMap Pf.cells)) ∧ Hid (Below w1.heap.size w1 wr)) (fun _ i _ => n6 - (intOf i).toNat)
      case atStart => exact ⟨0, by omega, rfl, World.ownsRow_nil _ _ _ _, Below.refl _ _⟩
      case round =>
        obtain ⟨j, hj, rfl, HO, HB⟩ := hrel
        have HJ1 := hidp (HJ.out.below HB.out)
        by_cases hlt : j < n6
        · have l1 : (j : Int) < (n6 : Int) := by omega
          obtain ⟨g, o, rfl, hr⟩ := HJ.out.all.rows (by omega)
          have hjl : j < S.length := by rw [HJ.out.all.len]; exact hlt
          have q1 := hr j hjl
          have hd := chg_snoc E F S j hjl
          have hlen : (chgS E F (S.take j)).length ≤ 1000 := by have := chgS_len E F (S.take j); rw [List.length_take] at this; omega
          generalize S[j] = e at *
          have QE := hidp (fun W (hW : Below w1.heap.size w1 W) => (show W.rangeAt g (o + j * 14) e.cells from fun i v hv => below_cell hW (Nat.le_refl _) _ _ (q1 i v hv)))
          have c0 : wr.cell? ⟨g, o + j * 14, none⟩ = some (.int .u32 (e.p.a : Int)) := QE.out wr HB.out 0 _ rfl
          have c1 : wr.cell? ⟨g, o + j * 14 + 1, none⟩ = some (.int .i64 e.p.l) := QE.out wr HB.out 1 _ rfl
          obtain ⟨r1, k1, hg1⟩ : ∃ r was, getL E e.p = (r, was) := ⟨_, _, rfl⟩
          obtain ⟨r2, k2, hg2⟩ : ∃ r was, getL F e.p = (r, was) := ⟨_, _, rfl⟩
          have HG1 := hidp (fun W (h : EnsV wA W a n E) => get16_any wA a n c E e.p W h (by omega))
          have HG2 := hidp (fun W (h : EnsV wA W b m F) => get16_any wA b m d F e.p W h (by omega))
          have HA1 := hidp (show r1.at wA by have := getL_at HE.out.ok e.p; rw [hg1] at this; exact this)
          have HA2 := hidp (show r2.at wA by have := getL_at HF.out.ok e.p; rw [hg2] at this; exact this)
          have HCH := hidp (show chgB E F e.p = (k1 != k2 || !sameA r1 r2) by unfold chgB; rw [hg1, hg2])
          have HD := hidp hd
          have HLEN := hidp hlen
          have hpv : e.p.val = .agg #[.int .u32 (e.p.a : Int), .int .i64 e.p.l] := rfl
          have h1v : r1.val = .agg r1.cells.toArray := rfl
          have h2v : r2.val = .agg r2.cells.toArray := rfl
          have hi1 : Hid ((Try.prog.info? 37).map (·.size) = some r1.cells.toArray.size) := Try.info37
          have hi2 : Hid ((Try.prog.info? 37).map (·.size) = some r2.cells.toArray.size) := Try.info37
          have H20 := hidp (fun W h1 h2 => same20_any r1 r2 W h1 h2)
          rw [hpv, hg1] at HG1
          rw [hpv, hg2] at HG2
          simp only [h1v] at HG1
          simp only [h2v] at HG2
          rw [h1v, h2v] at H20
          clear hr hjl q1 hd hlen hpv h1v h2v hg1 hg2
          go_upto_region 13 with (first
            | (go_at_call 32; go_must (
               refine (HG1.out _ HJ1.out.old).mono ?_
               rintro e1 w2 ⟨rfl, B2⟩
               have HB2 := hidp (HB.out.trans (B2.mono HB.out.size))
               have HO2 := hidp (ownsRow_below HO.out B2 (Nat.le_refl _))
               clear B2 c0 c1))
            | (with_reducible refine wpList_store_row rfl 37 (.tmp 11) (.tmp 54) rfl w2.heap.size r1.cells.toArray rfl rfl 37 _ (heap_alloc_new _ _) hi1.out rfl r1.all_one ?_
               rw [alloc_fill _ rfl]))
          obtain ⟨B1, hB1⟩ : ∃ B1, B1 = w2.heap.size := ⟨_, rfl⟩
          have hb3 := (Below.refl w2.heap.size w2).alloc (Nat.le_refl _) (.cells r1.cells.toArray 37)
          have HB3 := hidp (HB2.out.trans (hb3.mono HB2.out.size))
          have HO3 := hidp (ownsRow_below HO2.out hb3 (Nat.le_refl _))
          have hk3 := heap_alloc_new w2 (.cells r1.cells.toArray 37)
          change Code.wp Try.prog _ _ _ (w2.alloc (.cells r1.cells.toArray 37))
          rw [← hB1] at hk3 ⊢
          have K3 := hidp hk3
          generalize w2.alloc (.cells r1.cells.toArray 37) = w3 at *
          clear hb3 hB1 hk3 HB2 HO2
          have c0 : w3.cell? ⟨g, o + j * 14, none⟩ = some (.int .u32 (e.p.a : Int)) := QE.out w3 HB3.out 0 _ rfl
          have c1 : w3.cell? ⟨g, o + j * 14 + 1, none⟩ = some (.int .i64 e.p.l) := QE.out w3 HB3.out 1 _ rfl
          go_upto_region 14 with (first
            | (go_at_call 32; go_must (
               refine (HG2.out _ (HJ.out.below HB3.out).now).mono ?_
               rintro e1 w4 ⟨rfl, B4⟩
               have HB4 := hidp (HB3.out.trans (B4.mono HB3.out.size))
               have HO4 := hidp (ownsRow_below HO3.out B4 (Nat.le_refl _))
               have K4 := hidp (heap_below B4 K3.out (ltOf K3.out))
               clear B4 c0 c1))
            | (with_reducible refine wpList_store_row rfl 37 (.tmp 13) (.tmp 64) rfl w4.heap.size r2.cells.toArray rfl rfl 37 _ (heap_alloc_new _ _) hi2.out rfl r2.all_one ?_
               rw [alloc_fill _ rfl]))
          obtain ⟨B2, hB2⟩ : ∃ B2, B2 = w4.heap.size := ⟨_, rfl⟩
          have hb5 := (Below.refl w4.heap.size w4).alloc (Nat.le_refl _) (.cells r2.cells.toArray 37)
          have HB5 := hidp (HB4.out.trans (hb5.mono HB4.out.size))
          have HO5 := hidp (ownsRow_below HO4.out hb5 (Nat.le_refl _))
          have K5 := hidp (heap_below hb5 K4.out (ltOf K4.out))
          have hk5 := heap_alloc_new w4 (.cells r2.cells.toArray 37)
          change Code.wp Try.prog _ _ _ (w4.alloc (.cells r2.cells.toArray 37))
          rw [← hB2] at hk5 ⊢
          have K6 := hidp hk5
          generalize w4.alloc (.cells r2.cells.toArray 37) = w5 at *
          clear hb5 hB2 hk5 HB4 HO4 K4
          have hlen := HLEN.out
          cases k1 with
          | false =>
            cases k2 with
            | false =>
              cases hsa : sameA r1 r2 with
              | true =>
                rw [hsa] at H20 HCH
                clear hsa
                go_wp2_with (first
                  | (with_reducible refine wpList_load_row_w (by kernel_rfl) 37 (.tmp 11) rfl B1 rfl 37 r1.cells.toArray (0, 0) _ K5.out Try.underlying37 rfl hi1.out ?_)
                  | (with_reducible refine wpList_load_row_w (by kernel_rfl) 37 (.tmp 13) rfl B2 rfl 37 r2.cells.toArray (0, 0) _ K6.out Try.underlying37 rfl hi2.out ?_)
                  | (go_at_call 20; go_must (
                     refine (H20.out _ (HA1.out.below (HJ.out.below HB5.out).wA) (HA2.out.below (HJ.out.below HB5.out).wA)).mono ?_
                     rintro e1 w6 ⟨rfl, B6⟩
                     have HB6 := hidp (HB5.out.trans (B6.mono HB5.out.size))
                     have HO6 := hidp (ownsRow_below HO5.out B6 (Nat.le_refl _))
                     clear B6)))
                have HFN := hidp (show w6.ownsRow w1.heap.size 44 2 u5 (chgS E F (S.take (j + 1))).length ((chgS E F (S.take (j + 1))).flatMap Pf.cells) by rw [HD.out, if_neg (by rw [HCH.out]; simp), List.append_nil]; exact HO6.out)
                go_roundw
                case rel => exact ⟨j + 1, by omega, by go_num, HFN, HB6⟩
                case measure => simp [intOf]; omega
              | false =>
                rw [hsa] at H20 HCH
                clear hsa
                have HYES := hidp (show chgB E F e.p = true by rw [HCH.out]; rfl)
                go_wp2_with (first
                  | (with_reducible refine wpList_load_row_w (by kernel_rfl) 37 (.tmp 11) rfl B1 rfl 37 r1.cells.toArray (0, 0) _ K5.out Try.underlying37 rfl hi1.out ?_)
                  | (with_reducible refine wpList_load_row_w (by kernel_rfl) 37 (.tmp 13) rfl B2 rfl 37 r2.cells.toArray (0, 0) _ K6.out Try.underlying37 rfl hi2.out ?_)
                  | (go_at_call 20; go_must (
                     refine (H20.out _ (HA1.out.below (HJ.out.below HB5.out).wA) (HA2.out.below (HJ.out.below HB5.out).wA)).mono ?_
                     rintro e1 w6 ⟨rfl, B6⟩
                     have HB6 := hidp (HB5.out.trans (B6.mono HB5.out.size))
                     have HO6 := hidp (ownsRow_below HO5.out B6 (Nat.le_refl _))
                     have c0 : w6.cell? ⟨g, o + j * 14, none⟩ = some (.int .u32 (e.p.a : Int)) := QE.out w6 HB6.out 0 _ rfl
                     have c1 : w6.cell? ⟨g, o + j * 14 + 1, none⟩ = some (.int .i64 e.p.l) := QE.out w6 HB6.out 1 _ rfl
                     have HO8 := hidp (ownsRow_below HO6.out ((Below.refl w6.heap.size w6).alloc (Nat.le_refl _) (.cells #[.int .u32 (e.p.a : Int), .int .i64 e.p.l] 44)) (Nat.le_refl _))
                     have HB8 := hidp (HB6.out.trans (((Below.refl w6.heap.size w6).alloc (Nat.le_refl _) (.cells #[.int .u32 (e.p.a : Int), .int .i64 e.p.l] 44)).mono HB6.out.size))
                     clear B6))
                  | (at_builtin; go_must (
                     change wpList _ _ _ _ _ (w6.alloc (.cells #[.int .u32 (e.p.a : Int), .int .i64 e.p.l] 44))
                     refine wpList_append_own_at (w6.alloc (.cells #[.int .u32 (e.p.a : Int), .int .i64 e.p.l] 44)) rfl (.tmp 75) (.tmp 81) 29 rfl w1.heap.size 44 i0 zero44v 2 16 Try.underlying29 hi0 hz0 hz1 hz2 rfl (by omega) u5 _ _ rfl HO8.out ⟨w6.heap.size, 0, none⟩ 1 1 e.p.cells rfl rfl (news_two w6 e.p) (pf_ones e.p) (by simp only [maxLen]; omega) (by omega) HB8.out.size ?_
                     intro o9 w9 hown hg _ hat
                     have HFN := hidp (show w9.ownsRow w1.heap.size 44 2 o9 (chgS E F (S.take (j + 1))).length ((chgS E F (S.take (j + 1))).flatMap Pf.cells) by
                       rw [HD.out, if_pos HYES.out, List.length_append, List.flatMap_append]
                       simpa using hown)
                     have HB9 := hidp (HB8.out.grown hg HB8.out.size fun k hk => (ownsRow_blk HO8.out k hk).1)
                     clear hown hg hat)))
                go_roundw
                case rel => exact ⟨j + 1, by omega, by go_num, HFN, HB9⟩
                case measure => simp [intOf]; omega
            | true =>
              have HYES := hidp (show chgB E F e.p = true by rw [HCH.out]; rfl)
              have c0 : w5.cell? ⟨g, o + j * 14, none⟩ = some (.int .u32 (e.p.a : Int)) := QE.out w5 HB5.out 0 _ rfl
              have c1 : w5.cell? ⟨g, o + j * 14 + 1, none⟩ = some (.int .i64 e.p.l) := QE.out w5 HB5.out 1 _ rfl
              have HO8 := hidp (ownsRow_below HO5.out ((Below.refl w5.heap.size w5).alloc (Nat.le_refl _) (.cells #[.int .u32 (e.p.a : Int), .int .i64 e.p.l] 44)) (Nat.le_refl _))
              have HB8 := hidp (HB5.out.trans (((Below.refl w5.heap.size w5).alloc (Nat.le_refl _) (.cells #[.int .u32 (e.p.a : Int), .int .i64 e.p.l] 44)).mono HB5.out.size))
              go_wp2_with (first
                | (at_builtin; go_must (
                   change wpList _ _ _ _ _ (w5.alloc (.cells #[.int .u32 (e.p.a : Int), .int .i64 e.p.l] 44))
                   refine wpList_append_own_at (w5.alloc (.cells #[.int .u32 (e.p.a : Int), .int .i64 e.p.l] 44)) rfl (.tmp 75) (.tmp 81) 29 rfl w1.heap.size 44 i0 zero44v 2 16 Try.underlying29 hi0 hz0 hz1 hz2 rfl (by omega) u5 _ _ rfl HO8.out ⟨w5.heap.size, 0, none⟩ 1 1 e.p.cells rfl rfl (news_two w5 e.p) (pf_ones e.p) (by simp only [maxLen]; omega) (by omega) HB8.out.size ?_
                   intro o9 w9 hown hg _ hat
                   have HFN := hidp (show w9.ownsRow w1.heap.size 44 2 o9 (chgS E F (S.take (j + 1))).length ((chgS E F (S.take (j + 1))).flatMap Pf.cells) by
                     rw [HD.out, if_pos HYES.out, List.length_append, List.flatMap_append]
                     simpa using hown)
                   have HB9 := hidp (HB8.out.grown hg HB8.out.size fun k hk => (ownsRow_blk HO8.out k hk).1)
                   clear hown hg hat)))
              go_roundw
              case rel => exact ⟨j + 1, by omega, by go_num, HFN, HB9⟩
              case measure => simp [intOf]; omega
          | true =>
            cases k2 with
            | false =>
              have HYES := hidp (show chgB E F e.p = true by rw [HCH.out]; rfl)
              have c0 : w5.cell? ⟨g, o + j * 14, none⟩ = some (.int .u32 (e.p.a : Int)) := QE.out w5 HB5.out 0 _ rfl
              have c1 : w5.cell? ⟨g, o + j * 14 + 1, none⟩ = some (.int .i64 e.p.l) := QE.out w5 HB5.out 1 _ rfl
              have HO8 := hidp (ownsRow_below HO5.out ((Below.refl w5.heap.size w5).alloc (Nat.le_refl _) (.cells #[.int .u32 (e.p.a : Int), .int .i64 e.p.l] 44)) (Nat.le_refl _))
              have HB8 := hidp (HB5.out.trans (((Below.refl w5.heap.size w5).alloc (Nat.le_refl _) (.cells #[.int .u32 (e.p.a : Int), .int .i64 e.p.l] 44)).mono HB5.out.size))
              go_wp2_with (first
                | (at_builtin; go_must (
                   change wpList _ _ _ _ _ (w5.alloc (.cells #[.int .u32 (e.p.a : Int), .int .i64 e.p.l] 44))
                   refine wpList_append_own_at (w5.alloc (.cells #[.int .u32 (e.p.a : Int), .int .i64 e.p.l] 44)) rfl (.tmp 75) (.tmp 81) 29 rfl w1.heap.size 44 i0 zero44v 2 16 Try.underlying29 hi0 hz0 hz1 hz2 rfl (by omega) u5 _ _ rfl HO8.out ⟨w5.heap.size, 0, none⟩ 1 1 e.p.cells rfl rfl (news_two w5 e.p) (pf_ones e.p) (by simp only [maxLen]; omega) (by omega) HB8.out.size ?_
                   intro o9 w9 hown hg _ hat
                   have HFN := hidp (show w9.ownsRow w1.heap.size 44 2 o9 (chgS E F (S.take (j + 1))).length ((chgS E F (S.take (j + 1))).flatMap Pf.cells) by
                     rw [HD.out, if_pos HYES.out, List.length_append, List.flatMap_append]
                     simpa using hown)
                   have HB9 := hidp (HB8.out.grown hg HB8.out.size fun k hk => (ownsRow_blk HO8.out k hk).1)
                   clear hown hg hat)))
              go_roundw
              case rel => exact ⟨j + 1, by omega, by go_num, HFN, HB9⟩
              case measure => simp [intOf]; omega
            | true =>
              cases hsa : sameA r1 r2 with
              | true =>
                rw [hsa] at H20 HCH
                clear hsa
                go_wp2_with (first
                  | (with_reducible refine wpList_load_row_w (by kernel_rfl) 37 (.tmp 11) rfl B1 rfl 37 r1.cells.toArray (0, 0) _ K5.out Try.underlying37 rfl hi1.out ?_)
                  | (with_reducible refine wpList_load_row_w (by kernel_rfl) 37 (.tmp 13) rfl B2 rfl 37 r2.cells.toArray (0, 0) _ K6.out Try.underlying37 rfl hi2.out ?_)
                  | (go_at_call 20; go_must (
                     refine (H20.out _ (HA1.out.below (HJ.out.below HB5.out).wA) (HA2.out.below (HJ.out.below HB5.out).wA)).mono ?_
                     rintro e1 w6 ⟨rfl, B6⟩
                     have HB6 := hidp (HB5.out.trans (B6.mono HB5.out.size))
                     have HO6 := hidp (ownsRow_below HO5.out B6 (Nat.le_refl _))
                     clear B6)))
                have HFN := hidp (show w6.ownsRow w1.heap.size 44 2 u5 (chgS E F (S.take (j + 1))).length ((chgS E F (S.take (j + 1))).flatMap Pf.cells) by rw [HD.out, if_neg (by rw [HCH.out]; simp), List.append_nil]; exact HO6.out)
                go_roundw
                case rel => exact ⟨j + 1, by omega, by go_num, HFN, HB6⟩
                case measure => simp [intOf]; omega
              | false =>
                rw [hsa] at H20 HCH
                clear hsa
                have HYES := hidp (show chgB E F e.p = true by rw [HCH.out]; rfl)
                go_wp2_with (first
                  | (with_reducible refine wpList_load_row_w (by kernel_rfl) 37 (.tmp 11) rfl B1 rfl 37 r1.cells.toArray (0, 0) _ K5.out Try.underlying37 rfl hi1.out ?_)
                  | (with_reducible refine wpList_load_row_w (by kernel_rfl) 37 (.tmp 13) rfl B2 rfl 37 r2.cells.toArray (0, 0) _ K6.out Try.underlying37 rfl hi2.out ?_)
                  | (go_at_call 20; go_must (
                     refine (H20.out _ (HA1.out.below (HJ.out.below HB5.out).wA) (HA2.out.below (HJ.out.below HB5.out).wA)).mono ?_
                     rintro e1 w6 ⟨rfl, B6⟩
                     have HB6 := hidp (HB5.out.trans (B6.mono HB5.out.size))
                     have HO6 := hidp (ownsRow_below HO5.out B6 (Nat.le_refl _))
                     have c0 : w6.cell? ⟨g, o + j * 14, none⟩ = some (.int .u32 (e.p.a : Int)) := QE.out w6 HB6.out 0 _ rfl
                     have c1 : w6.cell? ⟨g, o + j * 14 + 1, none⟩ = some (.int .i64 e.p.l) := QE.out w6 HB6.out 1 _ rfl
                     have HO8 := hidp (ownsRow_below HO6.out ((Below.refl w6.heap.size w6).alloc (Nat.le_refl _) (.cells #[.int .u32 (e.p.a : Int), .int .i64 e.p.l] 44)) (Nat.le_refl _))
                     have HB8 := hidp (HB6.out.trans (((Below.refl w6.heap.size w6).alloc (Nat.le_refl _) (.cells #[.int .u32 (e.p.a : Int), .int .i64 e.p.l] 44)).mono HB6.out.size))
                     clear B6))
                  | (at_builtin; go_must (
                     change wpList _ _ _ _ _ (w6.alloc (.cells #[.int .u32 (e.p.a : Int), .int .i64 e.p.l] 44))
                     refine wpList_append_own_at (w6.alloc (.cells #[.int .u32 (e.p.a : Int), .int .i64 e.p.l] 44)) rfl (.tmp 75) (.tmp 81) 29 rfl w1.heap.size 44 i0 zero44v 2 16 Try.underlying29 hi0 hz0 hz1 hz2 rfl (by omega) u5 _ _ rfl HO8.out ⟨w6.heap.size, 0, none⟩ 1 1 e.p.cells rfl rfl (news_two w6 e.p) (pf_ones e.p) (by simp only [maxLen]; omega) (by omega) HB8.out.size ?_
                     intro o9 w9 hown hg _ hat
                     have HFN := hidp (show w9.ownsRow w1.heap.size 44 2 o9 (chgS E F (S.take (j + 1))).length ((chgS E F (S.take (j + 1))).flatMap Pf.cells) by
                       rw [HD.out, if_pos HYES.out, List.length_append, List.flatMap_append]
                       simpa using hown)
                     have HB9 := hidp (HB8.out.grown hg HB8.out.size fun k hk => (ownsRow_blk HO8.out k hk).1)
                     clear hown hg hat)))
                go_roundw
                case rel => exact ⟨j + 1, by omega, by go_num, HFN, HB9⟩
                case measure => simp [intOf]; omega
        · have l1 : ¬ (j : Int) < (n6 : Int) := by omega
          have ho := HO.out
          rw [List.take_of_length_le (by rw [HJ.out.all.len]; omega), HRES.out] at ho
          have hok : ∀ p ∈ chgR E F, p.ok := fun p hp => by
            rw [← HRES.out] at hp
            unfold chgS at hp
            obtain ⟨e, he, rfl⟩ := List.mem_map.1 hp
            exact (HJ.out.all.ok e (List.mem_filter.1 he).1).1
          obtain ⟨a9, c9, rfl, h9⟩ := own_pfs ho hok
          have H9 := hidp (And.intro h9 HJ1.out.bel)
          clear ho hok h9
          go_wp2
          go_ret
          exact ⟨⟨a9, c9, rfl, H9.out.1⟩, H9.out.2⟩
end Go.Proofs.Ytnenpfalhbbadaa
