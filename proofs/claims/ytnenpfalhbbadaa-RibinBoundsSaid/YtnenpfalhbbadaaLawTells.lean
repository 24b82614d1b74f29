/- The law RibinTells. -/
import Derived.Test.YtnenpfalhbbadaaRW
import Derived.Test.YtnenpfalhbbadaaLawNobody
import Derived.Test.YtnenpfalhbbadaaTD
import Derived.Test.YtnenpfalhbbadaaSB
namespace Go.Proofs.Ytnenpfalhbbadaa
open Go.RowKit

/-- what stands while the law runs: the boxes of u, p; the list of updates -/
structure TJ (w : World) (u : Upd) (p : Pf) (L : List Upd) (a : Option Addr) (n : Nat) (W : World) : Prop where
  bel : Below w.heap.size w W
  ub : W.heap[w.heap.size]? = some (.cells u.cells.toArray 39 (0, 0))
  pb : W.heap[w.heap.size + 1]? = some (.cells #[.int .u32 (p.a : Int), .int .i64 p.l] 44 (0, 0))
  ua : u.at W
  la : UpdsV W a n L
theorem TJ.below {w W W' : World} {u : Upd} {p : Pf} {L : List Upd} {a : Option Addr} {n : Nat} (h : TJ w u p L a n W) (hB : Below W.heap.size W W') : TJ w u p L a n W' :=
  ⟨h.bel.trans (hB.mono h.bel.size), heap_below hB h.ub (ltOf h.ub), heap_below hB h.pb (ltOf h.pb), h.ua.below hB, h.la.below hB⟩
/-- the routes behind some updates -/
structure TX (w : World) (x : Option Addr) (A : Ab) (m lim : Int) (j : Nat) (W : World) : Prop where
  inx : InAt w W x A m lim
  wf : WF A
  lo : -(30 * (j : Int)) ≤ m
  hi : m ≤ 30 * (j : Int)
theorem TX.below {w W W' : World} {x : Option Addr} {A : Ab} {m lim : Int} {j : Nat} (h : TX w x A m lim j W) (hB : Below W.heap.size W W') : TX w x A m lim j W' := ⟨h.inx.below hB, h.wf, h.lo, h.hi⟩
theorem upd_len {W : World} {u : Upd} (h : u.at W) : u.gone.length = u.gn ∧ u.news.length = u.nn := ⟨h.gone.2.1, h.news.2.1⟩
theorem getA_at {wA W : World} {x : Option Addr} {A : Ab} {n lim : Int} (h : InAt wA W x A n lim) (p : Pf) : (getA A p).1.at wA := by
  rcases h with ⟨-, rfl, -, -⟩ | ⟨b, bt, t, -, -, h3, rfl⟩
  · exact att0_at wA
  · rw [← getT_ab]
    exact getT_at h3.tree p
theorem diffL_len (f : Pf → Bool) (l : List Pf) : (diffL f l).length ≤ l.length := by
  unfold diffL Go.Lib.compactUpTo
  rw [List.length_map]
  refine Nat.le_trans (List.length_filter_le _ _) ?_
  rw [List.length_range, sortP_len]
  exact List.length_filter_le _ _
set_option maxRecDepth 100000 in
set_option maxHeartbeats 16000000 in
theorem lawTells_any (L : List Upd) (a : Option Addr) (n c : Nat) (u : Upd) (p : Pf) (hp : p.ok) (w : World) (hL : UpdsV w a n L) (hu : u.at w) : Calls Try.prog 5 #[.slice a n c, u.val, p.val] w fun e w' => e = .returned (.bool true) ∧ Below w.heap.size w w' := by
  have hb := ((Below.refl w.heap.size w).alloc (Nat.le_refl _) (.cells u.cells.toArray 39)).alloc (by simp) (.cells #[.int .u32 (p.a : Int), .int .i64 p.l] 44)
  have H0 := hidp (TJ.mk (p := p) hb (heap_alloc_at (heap_alloc_new w _) _) (heap_alloc_top _ _ _ (by simp)) (hu.below hb) (hL.below hb))
  have HUA := hidp hu.att
  have HLA := hidp hL
  have huv : u.val = .agg u.cells.toArray := rfl
  have hpv : p.val = .agg #[.int .u32 (p.a : Int), .int .i64 p.l] := rfl
  have hiu : Hid ((Try.prog.info? 39).map (·.size) = some u.cells.toArray.size) := Try.info39
  rw [huv, hpv]
  clear hb hu hL
  go_enter Try.func5, Try.ntmps5
  go_upto_region 1 with (fail)
  change Code.wp Try.prog _ _ _ ((w.alloc (.cells u.cells.toArray 39)).alloc (.cells #[.int .u32 (p.a : Int), .int .i64 p.l] 44))
  generalize (w.alloc (.cells u.cells.toArray 39)).alloc (.cells #[.int .u32 (p.a : Int), .int .i64 p.l] 44) = w0 at *
  go_wp2_with fail
  refine (few7 L a n c 10 _ H0.out.la (by decide)).mono ?_
  rintro e w1 ⟨⟨bf, rfl, hbf⟩, B1⟩
  have H1 := hidp (H0.out.below B1)
  have HBF := hidp hbf
  clear B1 hbf
  cases bf with
  | false =>
    clear HBF
    go_wp2_with (go_at_call 8; go_must (
      refine (awake_any _).mono ?_
      rintro e w2 ⟨rfl, B2⟩
      have H3 := hidp (H1.out.below B2)
      clear B2))
    go_ret
    exact ⟨rfl, H3.out.bel⟩
  | true =>
    have HF := hidp (HBF.out rfl)
    have hlen : u.cells.length = 13 := Upd.len u
    have hb2 := (Below.refl w1.heap.size w1).alloc (Nat.le_refl _) (.cells u.cells.toArray 39)
    have H2 := hidp (H1.out.below hb2)
    have HL2 := hidp (one_upds (heap_alloc_new w1 (.cells u.cells.toArray 39)) (H1.out.ua.below hb2))
    clear HBF hb2
    go_wp2_with (refine wpList_load_row_w (by kernel_rfl) 39 (.tmp 4) rfl w.heap.size rfl 39 u.cells.toArray (0, 0) _ H1.out.ub Try.underlying39 rfl hiu.out ?_)
    rw [fold13]
    refine (few7 [u] _ 1 1 1 _ HL2.out (by decide)).mono ?_
    rintro e w2 ⟨⟨bf, rfl, hbf⟩, B2⟩
    have H3 := hidp (H2.out.below B2)
    have HBF := hidp hbf
    clear B2 hbf hlen
    cases bf with
    | false =>
      clear HBF
      go_wp2_with (go_at_call 8; go_must (
        refine (awake_any _).mono ?_
        rintro e w3 ⟨rfl, B3⟩
        have H4 := hidp (H3.out.below B3)
        clear B3))
      go_ret
      exact ⟨rfl, H4.out.bel⟩
    | true =>
      have HFU := hidp ((HBF.out rfl).2 u (by simp)).2
      clear HBF
      go_wp2_with (go_at_call 9; go_must (
        refine (new_any w 30 _).mono ?_
        rintro e w3 ⟨⟨b, rfl, -, hI⟩, B3⟩
        have H4 := hidp (H3.out.below B3)
        have HX := hidp (TX.mk (j := 0) hI trivial (by omega) (by omega))
        clear hI B3))
      go_loopw [7, 8] (fun x i wr => ∃ (j : Nat) (x' : Option Addr) (A : Ab) (m : Int), j ≤ n ∧ x = .pointer x' ∧ i = .int .i64 (j : Int) ∧ Hid (TX w x' A m 30 j wr) ∧ Hid (TJ w u p L a n wr)) (fun _ i _ => n - (intOf i).toNat)
      case atStart => exact ⟨0, _, .nil, 0, by omega, rfl, rfl, HX.out, H4.out⟩
      case round =>
        clear HX H4
        obtain ⟨j, x', A, m, hj, rfl, rfl, HX, HJ⟩ := hrel
        have hn10 : n ≤ 10 := HF.out.1
        by_cases hlt : j < n
        · have l1 : (j : Int) < (n : Int) := by omega
          obtain ⟨g, o, eg, hrw⟩ := HJ.out.la.row (by omega)
          have hjl : j < L.length := by rw [HJ.out.la.2.1]; exact hlt
          have hr := hrw j hjl
          have hat := HJ.out.la.2.2 _ (List.getElem_mem hjl)
          have hat0 := HLA.out.2.2 _ (List.getElem_mem hjl)
          have hfu := (HF.out.2 _ (List.getElem_mem hjl)).2
          generalize L[j] = v at *
          have HR := hidp hr
          have hup := updA_facts A m 30 v p HX.out.wf hat.news.2.2
          have hul := upd_len hat
          have HUF := hidp hup
          have HU := hidp (update_any same45_any w x' A m 30 v wr HX.out.inx hat hat0.att HJ.out.bel (by omega) (by omega) (by have := HX.out.lo; omega) (by have := HX.out.hi; omega))
          have hvv : v.val = .agg v.cells.toArray := rfl
          have hiv : Hid ((Try.prog.info? 39).map (·.size) = some v.cells.length) := Try.info39
          rw [hvv] at HU
          have HBD := hidp (show m - 30 ≤ (updA A m 30 v).2.1 ∧ (updA A m 30 v).2.1 ≤ m + 30 by have := hup.lo; have := hup.hi; omega)
          subst eg
          clear hrw hr hat hat0 hfu hup hul hvv hjl
          go_wp2_with (first
            | (with_reducible refine wpList_load_mid rfl 39 (.tmp 37) rfl g (o + j * 13) rfl v.cells _ HR.out Try.underlying39 rfl hiv.out ?_)
            | (go_at_call 11; go_must (
               refine HU.out.mono ?_
               rintro e w4 ⟨⟨b4, a4, c4, rfl, hI4, -⟩, B4⟩
               have HI4 := hidp hI4
               have HJ4 := hidp (HJ.out.below B4)
               clear hI4 B4)))
          go_roundw
          case rel => exact ⟨j + 1, _, _, _, by omega, rfl, by go_num, ⟨HI4.out, HUF.out.wf, by have := HX.out.lo; have := HBD.out; omega, by have := HX.out.hi; have := HBD.out; omega⟩, HJ4.out⟩
          case measure => simp [intOf]; omega
        · have l1 : ¬ (j : Int) < (n : Int) := by omega
          have hjn : j = n := by omega
          clear hlt hj
          obtain ⟨a1, ok1, hg1⟩ : ∃ a ok, getA A p = (a, ok) := ⟨_, _, rfl⟩
          have hup := updA_facts A m 30 u p HX.out.wf HJ.out.ua.news.2.2
          have hul := upd_len HJ.out.ua
          have hga := getA_at HX.out.inx p
          have HU := hidp (fun W (hW : TJ w u p L a n W) (hX : InAt w W x' A m 30) => update_any same45_any w x' A m 30 u W hX hW.ua HUA.out hW.bel (by have := HFU.out; omega) (by have := HFU.out; omega) (by have := HX.out.lo; omega) (by have := HX.out.hi; omega))
          obtain ⟨A', m', ov, hr⟩ : ∃ A' m' ov, updA A m 30 u = (A', m', ov) := ⟨_, _, _, rfl⟩
          have hsm := hup.same
          rw [hr] at hsm HU
          obtain ⟨a2, ok2, hg2⟩ : ∃ a ok, getA A' p = (a, ok) := ⟨_, _, rfl⟩
          have hdc := tells_iff A A' (u.gone ++ u.news) p hsm
          have hdl := diffL_len (otherA A A') (u.gone ++ u.news)
          have HG1 := hidp (fun W (h : InAt w W x' A m 30) => iget_any w x' A m 30 p hp W h)
          have HG2 := hidp (fun x2 W (h : InAt w W x2 A' m' 30) => And.intro (iget_any w x2 A' m' 30 p hp W h) (getA_at h p))
          unfold UpdE at HU
          rw [hg1] at hga hdc
          rw [hg2] at hdc
          have h1v : a1.val = .agg a1.cells.toArray := rfl
          have h2v : a2.val = .agg a2.cells.toArray := rfl
          rw [hg1, hpv] at HG1
          rw [hg2, hpv] at HG2
          simp only [h1v] at HG1
          simp only [h2v] at HG2
          rw [huv] at HU
          have hi1 : Hid ((Try.prog.info? 37).map (·.size) = some a1.cells.toArray.size) := Try.info37
          have hi2 : Hid ((Try.prog.info? 37).map (·.size) = some a2.cells.toArray.size) := Try.info37
          have hdl2 : (diffL (otherA A A') (u.gone ++ u.news)).length ≤ 1000 := by
            rw [List.length_append] at hdl
            have := HFU.out
            omega
          simp only at HU
          generalize diffL (otherA A A') (u.gone ++ u.news) = D at HU hdc hdl2
          have HDC := hidp hdc
          have HDL := hidp hdl2
          have HA1 := hidp hga
          clear hup hul hga hr hsm hdc hdl hdl2 hg1 hg2 h1v h2v
          have d0 := cellOf HJ.out.pb 0 (v := .int .u32 (p.a : Int)) rfl
          have d1 := cellOf HJ.out.pb 1 (v := .int .i64 p.l) rfl
          go_upto_region 9 with (first
            | (go_at_call 14; go_must (
               refine (HG1.out _ HX.out.inx).mono ?_
               rintro e w4 ⟨rfl, B4⟩
               have HJ4 := hidp (HJ.out.below B4)
               have HX4 := hidp (HX.out.below B4)
               clear B4 d0 d1))
            | (with_reducible refine wpList_store_row rfl 37 (.tmp 9) (.tmp 47) rfl w4.heap.size a1.cells.toArray rfl rfl 37 _ (heap_alloc_new _ _) hi1.out rfl a1.all_one ?_
               rw [alloc_fill _ rfl]))
          obtain ⟨B1, hB1⟩ : ∃ B1, B1 = w4.heap.size := ⟨_, rfl⟩
          have hb5 := (Below.refl w4.heap.size w4).alloc (Nat.le_refl _) (.cells a1.cells.toArray 37)
          have HJ5 := hidp (HJ4.out.below hb5)
          have HX5 := hidp (HX4.out.below hb5)
          have hk5 := heap_alloc_new w4 (.cells a1.cells.toArray 37)
          change Code.wp Try.prog _ _ _ (w4.alloc (.cells a1.cells.toArray 37))
          rw [← hB1] at hk5 ⊢
          have K5 := hidp hk5
          generalize w4.alloc (.cells a1.cells.toArray 37) = w5 at *
          clear hb5 hB1 hk5
          go_upto_region 10 with (first
            | (with_reducible refine wpList_load_row rfl 39 (.tmp 4) rfl w.heap.size rfl 39 u.cells.toArray (0, 0) _ HJ5.out.ub Try.underlying39 rfl hiu.out ?_)
            | (go_at_call 11; go_must (
               refine (HU.out _ HJ5.out HX5.out.inx).mono ?_
               rintro e w6 ⟨⟨b6, ac, cc, rfl, hI6, hP6⟩, B6⟩
               have HJ6 := hidp (HJ5.out.below B6)
               have K6 := hidp (heap_below B6 K5.out (ltOf K5.out))
               have HI6 := hidp hI6
               have HP6 := hidp hP6
               clear hI6 hP6 B6)))
          have d0 := cellOf HJ6.out.pb 0 (v := .int .u32 (p.a : Int)) rfl
          have d1 := cellOf HJ6.out.pb 1 (v := .int .i64 p.l) rfl
          have HA2 := hidp (HG2.out _ _ HI6.out).2
          go_upto_region 11 with (first
            | (go_at_call 14; go_must (
               refine (HG2.out _ _ HI6.out).1.mono ?_
               rintro e w7 ⟨rfl, B7⟩
               have HJ7 := hidp (HJ6.out.below B7)
               have K7 := hidp (heap_below B7 K6.out (ltOf K6.out))
               have HP7 := hidp (HP6.out.below B7)
               clear B7 d0 d1))
            | (with_reducible refine wpList_store_row rfl 37 (.tmp 14) (.tmp 60) rfl w7.heap.size a2.cells.toArray rfl rfl 37 _ (heap_alloc_new _ _) hi2.out rfl a2.all_one ?_
               rw [alloc_fill _ rfl]))
          obtain ⟨B2, hB2⟩ : ∃ B2, B2 = w7.heap.size := ⟨_, rfl⟩
          have hb8 := (Below.refl w7.heap.size w7).alloc (Nat.le_refl _) (.cells a2.cells.toArray 37)
          have HS := hidp (HJ7.out.below hb8)
          have K8 := hidp (heap_below hb8 K7.out (ltOf K7.out))
          have HP8 := hidp (HP7.out.below hb8)
          have hk8 := heap_alloc_new w7 (.cells a2.cells.toArray 37)
          change Code.wp Try.prog _ _ _ (w7.alloc (.cells a2.cells.toArray 37))
          rw [← hB2] at hk8 ⊢
          have K9 := hidp hk8
          generalize w7.alloc (.cells a2.cells.toArray 37) = w9 at *
          clear hb8 hB2 hk8
          have K1 := hidp (fun W (hW : Below w9.heap.size w9 W) => (show W.heap[B1]? = some (.cells a1.cells.toArray 37 (0, 0)) from heap_below hW K8.out (ltOf K8.out)))
          have K2 := hidp (fun W (hW : Below w9.heap.size w9 W) => (show W.heap[B2]? = some (.cells a2.cells.toArray 37 (0, 0)) from heap_below hW K9.out (ltOf K9.out)))
          have KP := hidp (fun W (hW : Below w9.heap.size w9 W) => (show W.heap[w.heap.size + 1]? = some (.cells #[.int .u32 (p.a : Int), .int .i64 p.l] 44 (0, 0)) from heap_below hW HS.out.pb (ltOf HS.out.pb)))
          have H20 := hidp (fun W (hW : Below w9.heap.size w9 W) => same20_any a1 a2 W (HA1.out.below (HS.out.bel.trans (hW.mono HS.out.bel.size))) (HA2.out.below (HS.out.bel.trans (hW.mono HS.out.bel.size))))
          have H21 := hidp (fun W (hW : Below w9.heap.size w9 W) => has_any ac D.length cc D p W (HP8.out.below hW) HDL.out)
          rw [show a1.val = .agg a1.cells.toArray from rfl, show a2.val = .agg a2.cells.toArray from rfl] at H20
          rw [hpv] at H21
          generalize D.length = dl at *
          clear K5 K6 K7 HX4 HX5 HJ4 HJ5 HJ6 HJ7 HX HJ HI6 HP6 HP7 HU HG1 HG2
          cases ok1 with
          | false =>
            cases ok2 with
            | false =>
              have HD := hidp (show decide (p ∈ D) = !sameA a1 a2 by rw [← HDC.out]; rfl)
              clear HDC
              refine wp_region_flow2 (fun iqv => ([(.bool false : Value), (.bool false : Value), (.bool false : Value), (.bool false : Value), (.agg a1.cells.toArray : Value), (.agg a2.cells.toArray : Value), (.bool (sameA a1 a2) : Value), (.bool (!sameA a1 a2) : Value), (.bool (!sameA a1 a2) : Value), (.slice ac dl cc : Value), (.agg #[.int .u32 (p.a : Int), .int .i64 p.l] : Value), (.bool (!sameA a1 a2) : Value), (.bool true : Value), (.bool true : Value), (.bool true : Value), (.bool true : Value), (.bool true : Value)] : List Value).getD iqv undef) [(some 62, .bool false), (some 63, .bool false), (some 64, .bool false), (some 65, .bool false), (some 66, .agg a1.cells.toArray), (some 67, .agg a2.cells.toArray), (some 68, .bool (sameA a1 a2)), (some 69, .bool (!sameA a1 a2)), (some 70, .bool (!sameA a1 a2)), (some 71, .slice ac dl cc), (some 72, .agg #[.int .u32 (p.a : Int), .int .i64 p.l]), (some 73, .bool (!sameA a1 a2)), (some 74, .bool true), (some 75, .bool true), (some 76, .bool true), (some 77, .bool true), (some 6, .bool true)] (fun W : World => Below w9.heap.size w9 W) (by kernel_rfl) (by kernel_rfl) ((Below.refl _ _).drew) (fun iq hiq => ?_) (by kernel_rfl) (fun W hSW => ?_)
              · match iq, hiq with
                | 0, _ =>
                  intro aq W hSW hf
                  have v10 : aq.tmps[10]? = some (.bool false) := (hf.at_base 10 (by kernel_rfl)).trans rfl
                  clear hf
                  refine wpOp_flow rfl (by rfl) (fun Kq hK => ?_)
                  go_simp
                  exact hK _ _ ⟨rfl, hSW⟩
                | 1, _ =>
                  intro aq W hSW hf
                  have v15 : aq.tmps[15]? = some (.bool false) := (hf.at_base 15 (by kernel_rfl)).trans rfl
                  clear hf
                  refine wpOp_flow rfl (by rfl) (fun Kq hK => ?_)
                  go_simp
                  exact hK _ _ ⟨rfl, hSW⟩
                | 2, _ =>
                  intro aq W hSW hf
                  have v62 : aq.tmps[62]? = some (.bool false) := hf.val 0 62 (by kernel_rfl) rfl
                  have v63 : aq.tmps[63]? = some (.bool false) := hf.val 1 63 (by kernel_rfl) rfl
                  clear hf
                  refine wpOp_flow rfl (by rfl) (fun Kq hK => ?_)
                  go_simp
                  exact hK _ _ ⟨rfl, hSW⟩
                | 3, _ =>
                  intro aq W hSW hf
                  have v64 : aq.tmps[64]? = some (.bool false) := hf.val 2 64 (by kernel_rfl) rfl
                  clear hf
                  refine wpOp_flow rfl (by rfl) (fun Kq hK => ?_)
                  go_simp
                  exact hK _ _ ⟨rfl, hSW⟩
                | 4, _ =>
                  intro aq W hSW hf
                  have v9 : aq.tmps[9]? = some (.pointer (some ⟨B1, 0, none⟩)) := (hf.at_base 9 (by kernel_rfl)).trans rfl
                  have v65 : aq.tmps[65]? = some (.bool false) := hf.val 3 65 (by kernel_rfl) rfl
                  clear hf
                  refine wpOp_flow rfl (wanted_of rfl rfl v65) (fun Kq hK => ?_)
                  refine wp_load_row 37 (.tmp 9) rfl B1 (eval_of v9) 37 a1.cells.toArray (0, 0) _ (K1.out W hSW) Try.underlying37 rfl Try.info37 (hK _ _ ⟨rfl, hSW⟩)
                | 5, _ =>
                  intro aq W hSW hf
                  have v14 : aq.tmps[14]? = some (.pointer (some ⟨B2, 0, none⟩)) := (hf.at_base 14 (by kernel_rfl)).trans rfl
                  have v65 : aq.tmps[65]? = some (.bool false) := hf.val 3 65 (by kernel_rfl) rfl
                  clear hf
                  refine wpOp_flow rfl (wanted_of rfl rfl v65) (fun Kq hK => ?_)
                  refine wp_load_row 37 (.tmp 14) rfl B2 (eval_of v14) 37 a2.cells.toArray (0, 0) _ (K2.out W hSW) Try.underlying37 rfl Try.info37 (hK _ _ ⟨rfl, hSW⟩)
                | 6, _ =>
                  intro aq W hSW hf
                  have v65 : aq.tmps[65]? = some (.bool false) := hf.val 3 65 (by kernel_rfl) rfl
                  have v66 : aq.tmps[66]? = some (.agg a1.cells.toArray) := hf.val 4 66 (by kernel_rfl) rfl
                  have v67 : aq.tmps[67]? = some (.agg a2.cells.toArray) := hf.val 5 67 (by kernel_rfl) rfl
                  clear hf
                  refine wpOp_flow rfl (wanted_of rfl rfl v65) (fun Kq hK => ?_)
                  go_simp
                  refine (H20.out W hSW).mono ?_
                  rintro e w19 ⟨rfl, B19⟩
                  exact hK _ _ ⟨rfl, hSW.trans (B19.mono hSW.size)⟩
                | 7, _ =>
                  intro aq W hSW hf
                  have v65 : aq.tmps[65]? = some (.bool false) := hf.val 3 65 (by kernel_rfl) rfl
                  have v68 : aq.tmps[68]? = some (.bool (sameA a1 a2)) := hf.val 6 68 (by kernel_rfl) rfl
                  clear hf
                  refine wpOp_flow rfl (wanted_of rfl rfl v65) (fun Kq hK => ?_)
                  go_simp
                  exact hK _ _ ⟨rfl, hSW⟩
                | 8, _ =>
                  intro aq W hSW hf
                  have v65 : aq.tmps[65]? = some (.bool false) := hf.val 3 65 (by kernel_rfl) rfl
                  have v69 : aq.tmps[69]? = some (.bool (!sameA a1 a2)) := hf.val 7 69 (by kernel_rfl) rfl
                  clear hf
                  refine wpOp_flow rfl (by rfl) (fun Kq hK => ?_)
                  go_simp
                  exact hK _ _ ⟨rfl, hSW⟩
                | 9, _ =>
                  intro aq W hSW hf
                  have v12 : aq.tmps[12]? = some (.slice ac dl cc) := (hf.at_base 12 (by kernel_rfl)).trans rfl
                  clear hf
                  refine wpOp_flow rfl (by rfl) (fun Kq hK => ?_)
                  go_simp
                  exact hK _ _ ⟨rfl, hSW⟩
                | 10, _ =>
                  intro aq W hSW hf
                  have v5 : aq.tmps[5]? = some (.pointer (some ⟨w.heap.size + 1, 0, none⟩)) := (hf.at_base 5 (by kernel_rfl)).trans rfl
                  clear hf
                  refine wpOp_flow rfl (by rfl) (fun Kq hK => ?_)
                  have d0 := cellOf (KP.out W hSW) 0 (v := .int .u32 (p.a : Int)) rfl
                  have d1 := cellOf (KP.out W hSW) 1 (v := .int .i64 p.l) rfl
                  go_simp
                  exact hK _ _ ⟨rfl, hSW⟩
                | 11, _ =>
                  intro aq W hSW hf
                  have v71 : aq.tmps[71]? = some (.slice ac dl cc) := hf.val 9 71 (by kernel_rfl) rfl
                  have v72 : aq.tmps[72]? = some (.agg #[.int .u32 (p.a : Int), .int .i64 p.l]) := hf.val 10 72 (by kernel_rfl) rfl
                  clear hf
                  refine wpOp_flow rfl (by rfl) (fun Kq hK => ?_)
                  go_simp
                  refine (H21.out W hSW).mono ?_
                  rw [HD.out]
                  rintro e w19 ⟨rfl, B19⟩
                  exact hK _ _ ⟨rfl, hSW.trans (B19.mono hSW.size)⟩
                | 12, _ =>
                  intro aq W hSW hf
                  have v70 : aq.tmps[70]? = some (.bool (!sameA a1 a2)) := hf.val 8 70 (by kernel_rfl) rfl
                  have v73 : aq.tmps[73]? = some (.bool (!sameA a1 a2)) := hf.val 11 73 (by kernel_rfl) rfl
                  clear hf
                  refine wpOp_flow rfl (by rfl) (fun Kq hK => ?_)
                  have hb : ∀ x : Bool, (x == x) = true := fun x => by cases x <;> rfl
                  go_simp
                  exact hK _ _ ⟨rfl, hSW⟩
                | 13, _ =>
                  intro aq W hSW hf
                  have v74 : aq.tmps[74]? = some (.bool true) := hf.val 12 74 (by kernel_rfl) rfl
                  clear hf
                  refine wpOp_flow rfl (by rfl) (fun Kq hK => ?_)
                  go_simp
                  exact hK _ _ ⟨rfl, hSW⟩
                | 14, _ =>
                  intro aq W hSW hf
                  have v75 : aq.tmps[75]? = some (.bool true) := hf.val 13 75 (by kernel_rfl) rfl
                  clear hf
                  refine wpOp_flow rfl (wanted_of rfl rfl v75) (fun Kq hK => ?_)
                  go_simp
                  refine (awake_any W).mono ?_
                  rintro e w19 ⟨rfl, B19⟩
                  exact hK _ _ ⟨rfl, hSW.trans (B19.mono hSW.size)⟩
                | 15, _ =>
                  intro aq W hSW hf
                  have v75 : aq.tmps[75]? = some (.bool true) := hf.val 13 75 (by kernel_rfl) rfl
                  have v76 : aq.tmps[76]? = some (.bool true) := hf.val 14 76 (by kernel_rfl) rfl
                  clear hf
                  refine wpOp_flow rfl (by rfl) (fun Kq hK => ?_)
                  go_simp
                  exact hK _ _ ⟨rfl, hSW⟩
                | 16, _ =>
                  intro aq W hSW hf
                  have v77 : aq.tmps[77]? = some (.bool true) := hf.val 15 77 (by kernel_rfl) rfl
                  clear hf
                  refine wpOp_flow rfl (by rfl) (fun Kq hK => ?_)
                  go_simp
                  exact hK _ _ ⟨rfl, hSW⟩
                | kq + 17, hk => exact absurd hk (by first | omega | (intro h; simp at h; omega))
              · simp only [puts, Act.put, List.setIfInBounds_toArray, List.set_cons_zero, List.set_cons_succ]
                have HB2 := hidp (HS.out.bel.trans (hSW.mono HS.out.bel.size))
                clear hSW
                go_wp2
                go_ret
                exact ⟨rfl, HB2.out⟩
            | true =>
              have HD := hidp (show decide (p ∈ D) = true by rw [← HDC.out]; rfl)
              clear HDC
              refine wp_region_flow2 (fun iqv => ([(.bool false : Value), (.bool true : Value), (.bool true : Value), (.bool true : Value), (undef : Value), (undef : Value), (undef : Value), (undef : Value), (.bool true : Value), (.slice ac dl cc : Value), (.agg #[.int .u32 (p.a : Int), .int .i64 p.l] : Value), (.bool true : Value), (.bool true : Value), (.bool true : Value), (.bool true : Value), (.bool true : Value), (.bool true : Value)] : List Value).getD iqv undef) [(some 62, .bool false), (some 63, .bool true), (some 64, .bool true), (some 65, .bool true), (some 66, undef), (some 67, undef), (some 68, undef), (some 69, undef), (some 70, .bool true), (some 71, .slice ac dl cc), (some 72, .agg #[.int .u32 (p.a : Int), .int .i64 p.l]), (some 73, .bool true), (some 74, .bool true), (some 75, .bool true), (some 76, .bool true), (some 77, .bool true), (some 6, .bool true)] (fun W : World => Below w9.heap.size w9 W) (by kernel_rfl) (by kernel_rfl) ((Below.refl _ _).drew) (fun iq hiq => ?_) (by kernel_rfl) (fun W hSW => ?_)
              · match iq, hiq with
                | 0, _ =>
                  intro aq W hSW hf
                  have v10 : aq.tmps[10]? = some (.bool false) := (hf.at_base 10 (by kernel_rfl)).trans rfl
                  clear hf
                  refine wpOp_flow rfl (by rfl) (fun Kq hK => ?_)
                  go_simp
                  exact hK _ _ ⟨rfl, hSW⟩
                | 1, _ =>
                  intro aq W hSW hf
                  have v15 : aq.tmps[15]? = some (.bool true) := (hf.at_base 15 (by kernel_rfl)).trans rfl
                  clear hf
                  refine wpOp_flow rfl (by rfl) (fun Kq hK => ?_)
                  go_simp
                  exact hK _ _ ⟨rfl, hSW⟩
                | 2, _ =>
                  intro aq W hSW hf
                  have v62 : aq.tmps[62]? = some (.bool false) := hf.val 0 62 (by kernel_rfl) rfl
                  have v63 : aq.tmps[63]? = some (.bool true) := hf.val 1 63 (by kernel_rfl) rfl
                  clear hf
                  refine wpOp_flow rfl (by rfl) (fun Kq hK => ?_)
                  go_simp
                  exact hK _ _ ⟨rfl, hSW⟩
                | 3, _ =>
                  intro aq W hSW hf
                  have v64 : aq.tmps[64]? = some (.bool true) := hf.val 2 64 (by kernel_rfl) rfl
                  clear hf
                  refine wpOp_flow rfl (by rfl) (fun Kq hK => ?_)
                  go_simp
                  exact hK _ _ ⟨rfl, hSW⟩
                | 4, _ =>
                  intro aq W hSW hf
                  have v65 : aq.tmps[65]? = some (.bool true) := hf.val 3 65 (by kernel_rfl) rfl
                  clear hf
                  exact wpOp_skip rfl (unwanted_of rfl rfl v65) ⟨rfl, hSW⟩
                | 5, _ =>
                  intro aq W hSW hf
                  have v65 : aq.tmps[65]? = some (.bool true) := hf.val 3 65 (by kernel_rfl) rfl
                  clear hf
                  exact wpOp_skip rfl (unwanted_of rfl rfl v65) ⟨rfl, hSW⟩
                | 6, _ =>
                  intro aq W hSW hf
                  have v65 : aq.tmps[65]? = some (.bool true) := hf.val 3 65 (by kernel_rfl) rfl
                  clear hf
                  exact wpOp_skip rfl (unwanted_of rfl rfl v65) ⟨rfl, hSW⟩
                | 7, _ =>
                  intro aq W hSW hf
                  have v65 : aq.tmps[65]? = some (.bool true) := hf.val 3 65 (by kernel_rfl) rfl
                  clear hf
                  exact wpOp_skip rfl (unwanted_of rfl rfl v65) ⟨rfl, hSW⟩
                | 8, _ =>
                  intro aq W hSW hf
                  have v65 : aq.tmps[65]? = some (.bool true) := hf.val 3 65 (by kernel_rfl) rfl
                  have v69 : aq.tmps[69]? = some (undef) := hf.val 7 69 (by kernel_rfl) rfl
                  clear hf
                  refine wpOp_flow rfl (by rfl) (fun Kq hK => ?_)
                  go_simp
                  exact hK _ _ ⟨rfl, hSW⟩
                | 9, _ =>
                  intro aq W hSW hf
                  have v12 : aq.tmps[12]? = some (.slice ac dl cc) := (hf.at_base 12 (by kernel_rfl)).trans rfl
                  clear hf
                  refine wpOp_flow rfl (by rfl) (fun Kq hK => ?_)
                  go_simp
                  exact hK _ _ ⟨rfl, hSW⟩
                | 10, _ =>
                  intro aq W hSW hf
                  have v5 : aq.tmps[5]? = some (.pointer (some ⟨w.heap.size + 1, 0, none⟩)) := (hf.at_base 5 (by kernel_rfl)).trans rfl
                  clear hf
                  refine wpOp_flow rfl (by rfl) (fun Kq hK => ?_)
                  have d0 := cellOf (KP.out W hSW) 0 (v := .int .u32 (p.a : Int)) rfl
                  have d1 := cellOf (KP.out W hSW) 1 (v := .int .i64 p.l) rfl
                  go_simp
                  exact hK _ _ ⟨rfl, hSW⟩
                | 11, _ =>
                  intro aq W hSW hf
                  have v71 : aq.tmps[71]? = some (.slice ac dl cc) := hf.val 9 71 (by kernel_rfl) rfl
                  have v72 : aq.tmps[72]? = some (.agg #[.int .u32 (p.a : Int), .int .i64 p.l]) := hf.val 10 72 (by kernel_rfl) rfl
                  clear hf
                  refine wpOp_flow rfl (by rfl) (fun Kq hK => ?_)
                  go_simp
                  refine (H21.out W hSW).mono ?_
                  rw [HD.out]
                  rintro e w19 ⟨rfl, B19⟩
                  exact hK _ _ ⟨rfl, hSW.trans (B19.mono hSW.size)⟩
                | 12, _ =>
                  intro aq W hSW hf
                  have v70 : aq.tmps[70]? = some (.bool true) := hf.val 8 70 (by kernel_rfl) rfl
                  have v73 : aq.tmps[73]? = some (.bool true) := hf.val 11 73 (by kernel_rfl) rfl
                  clear hf
                  refine wpOp_flow rfl (by rfl) (fun Kq hK => ?_)
                  go_simp
                  exact hK _ _ ⟨rfl, hSW⟩
                | 13, _ =>
                  intro aq W hSW hf
                  have v74 : aq.tmps[74]? = some (.bool true) := hf.val 12 74 (by kernel_rfl) rfl
                  clear hf
                  refine wpOp_flow rfl (by rfl) (fun Kq hK => ?_)
                  go_simp
                  exact hK _ _ ⟨rfl, hSW⟩
                | 14, _ =>
                  intro aq W hSW hf
                  have v75 : aq.tmps[75]? = some (.bool true) := hf.val 13 75 (by kernel_rfl) rfl
                  clear hf
                  refine wpOp_flow rfl (wanted_of rfl rfl v75) (fun Kq hK => ?_)
                  go_simp
                  refine (awake_any W).mono ?_
                  rintro e w19 ⟨rfl, B19⟩
                  exact hK _ _ ⟨rfl, hSW.trans (B19.mono hSW.size)⟩
                | 15, _ =>
                  intro aq W hSW hf
                  have v75 : aq.tmps[75]? = some (.bool true) := hf.val 13 75 (by kernel_rfl) rfl
                  have v76 : aq.tmps[76]? = some (.bool true) := hf.val 14 76 (by kernel_rfl) rfl
                  clear hf
                  refine wpOp_flow rfl (by rfl) (fun Kq hK => ?_)
                  go_simp
                  exact hK _ _ ⟨rfl, hSW⟩
                | 16, _ =>
                  intro aq W hSW hf
                  have v77 : aq.tmps[77]? = some (.bool true) := hf.val 15 77 (by kernel_rfl) rfl
                  clear hf
                  refine wpOp_flow rfl (by rfl) (fun Kq hK => ?_)
                  go_simp
                  exact hK _ _ ⟨rfl, hSW⟩
                | kq + 17, hk => exact absurd hk (by first | omega | (intro h; simp at h; omega))
              · simp only [puts, Act.put, List.setIfInBounds_toArray, List.set_cons_zero, List.set_cons_succ]
                have HB2 := hidp (HS.out.bel.trans (hSW.mono HS.out.bel.size))
                clear hSW
                go_wp2
                go_ret
                exact ⟨rfl, HB2.out⟩
          | true =>
            cases ok2 with
            | false =>
              have HD := hidp (show decide (p ∈ D) = true by rw [← HDC.out]; rfl)
              clear HDC
              refine wp_region_flow2 (fun iqv => ([(.bool true : Value), (.bool false : Value), (.bool true : Value), (.bool true : Value), (undef : Value), (undef : Value), (undef : Value), (undef : Value), (.bool true : Value), (.slice ac dl cc : Value), (.agg #[.int .u32 (p.a : Int), .int .i64 p.l] : Value), (.bool true : Value), (.bool true : Value), (.bool true : Value), (.bool true : Value), (.bool true : Value), (.bool true : Value)] : List Value).getD iqv undef) [(some 62, .bool true), (some 63, .bool false), (some 64, .bool true), (some 65, .bool true), (some 66, undef), (some 67, undef), (some 68, undef), (some 69, undef), (some 70, .bool true), (some 71, .slice ac dl cc), (some 72, .agg #[.int .u32 (p.a : Int), .int .i64 p.l]), (some 73, .bool true), (some 74, .bool true), (some 75, .bool true), (some 76, .bool true), (some 77, .bool true), (some 6, .bool true)] (fun W : World => Below w9.heap.size w9 W) (by kernel_rfl) (by kernel_rfl) ((Below.refl _ _).drew) (fun iq hiq => ?_) (by kernel_rfl) (fun W hSW => ?_)
              · match iq, hiq with
                | 0, _ =>
                  intro aq W hSW hf
                  have v10 : aq.tmps[10]? = some (.bool true) := (hf.at_base 10 (by kernel_rfl)).trans rfl
                  clear hf
                  refine wpOp_flow rfl (by rfl) (fun Kq hK => ?_)
                  go_simp
                  exact hK _ _ ⟨rfl, hSW⟩
                | 1, _ =>
                  intro aq W hSW hf
                  have v15 : aq.tmps[15]? = some (.bool false) := (hf.at_base 15 (by kernel_rfl)).trans rfl
                  clear hf
                  refine wpOp_flow rfl (by rfl) (fun Kq hK => ?_)
                  go_simp
                  exact hK _ _ ⟨rfl, hSW⟩
                | 2, _ =>
                  intro aq W hSW hf
                  have v62 : aq.tmps[62]? = some (.bool true) := hf.val 0 62 (by kernel_rfl) rfl
                  have v63 : aq.tmps[63]? = some (.bool false) := hf.val 1 63 (by kernel_rfl) rfl
                  clear hf
                  refine wpOp_flow rfl (by rfl) (fun Kq hK => ?_)
                  go_simp
                  exact hK _ _ ⟨rfl, hSW⟩
                | 3, _ =>
                  intro aq W hSW hf
                  have v64 : aq.tmps[64]? = some (.bool true) := hf.val 2 64 (by kernel_rfl) rfl
                  clear hf
                  refine wpOp_flow rfl (by rfl) (fun Kq hK => ?_)
                  go_simp
                  exact hK _ _ ⟨rfl, hSW⟩
                | 4, _ =>
                  intro aq W hSW hf
                  have v65 : aq.tmps[65]? = some (.bool true) := hf.val 3 65 (by kernel_rfl) rfl
                  clear hf
                  exact wpOp_skip rfl (unwanted_of rfl rfl v65) ⟨rfl, hSW⟩
                | 5, _ =>
                  intro aq W hSW hf
                  have v65 : aq.tmps[65]? = some (.bool true) := hf.val 3 65 (by kernel_rfl) rfl
                  clear hf
                  exact wpOp_skip rfl (unwanted_of rfl rfl v65) ⟨rfl, hSW⟩
                | 6, _ =>
                  intro aq W hSW hf
                  have v65 : aq.tmps[65]? = some (.bool true) := hf.val 3 65 (by kernel_rfl) rfl
                  clear hf
                  exact wpOp_skip rfl (unwanted_of rfl rfl v65) ⟨rfl, hSW⟩
                | 7, _ =>
                  intro aq W hSW hf
                  have v65 : aq.tmps[65]? = some (.bool true) := hf.val 3 65 (by kernel_rfl) rfl
                  clear hf
                  exact wpOp_skip rfl (unwanted_of rfl rfl v65) ⟨rfl, hSW⟩
                | 8, _ =>
                  intro aq W hSW hf
                  have v65 : aq.tmps[65]? = some (.bool true) := hf.val 3 65 (by kernel_rfl) rfl
                  have v69 : aq.tmps[69]? = some (undef) := hf.val 7 69 (by kernel_rfl) rfl
                  clear hf
                  refine wpOp_flow rfl (by rfl) (fun Kq hK => ?_)
                  go_simp
                  exact hK _ _ ⟨rfl, hSW⟩
                | 9, _ =>
                  intro aq W hSW hf
                  have v12 : aq.tmps[12]? = some (.slice ac dl cc) := (hf.at_base 12 (by kernel_rfl)).trans rfl
                  clear hf
                  refine wpOp_flow rfl (by rfl) (fun Kq hK => ?_)
                  go_simp
                  exact hK _ _ ⟨rfl, hSW⟩
                | 10, _ =>
                  intro aq W hSW hf
                  have v5 : aq.tmps[5]? = some (.pointer (some ⟨w.heap.size + 1, 0, none⟩)) := (hf.at_base 5 (by kernel_rfl)).trans rfl
                  clear hf
                  refine wpOp_flow rfl (by rfl) (fun Kq hK => ?_)
                  have d0 := cellOf (KP.out W hSW) 0 (v := .int .u32 (p.a : Int)) rfl
                  have d1 := cellOf (KP.out W hSW) 1 (v := .int .i64 p.l) rfl
                  go_simp
                  exact hK _ _ ⟨rfl, hSW⟩
                | 11, _ =>
                  intro aq W hSW hf
                  have v71 : aq.tmps[71]? = some (.slice ac dl cc) := hf.val 9 71 (by kernel_rfl) rfl
                  have v72 : aq.tmps[72]? = some (.agg #[.int .u32 (p.a : Int), .int .i64 p.l]) := hf.val 10 72 (by kernel_rfl) rfl
                  clear hf
                  refine wpOp_flow rfl (by rfl) (fun Kq hK => ?_)
                  go_simp
                  refine (H21.out W hSW).mono ?_
                  rw [HD.out]
                  rintro e w19 ⟨rfl, B19⟩
                  exact hK _ _ ⟨rfl, hSW.trans (B19.mono hSW.size)⟩
                | 12, _ =>
                  intro aq W hSW hf
                  have v70 : aq.tmps[70]? = some (.bool true) := hf.val 8 70 (by kernel_rfl) rfl
                  have v73 : aq.tmps[73]? = some (.bool true) := hf.val 11 73 (by kernel_rfl) rfl
                  clear hf
                  refine wpOp_flow rfl (by rfl) (fun Kq hK => ?_)
                  go_simp
                  exact hK _ _ ⟨rfl, hSW⟩
                | 13, _ =>
                  intro aq W hSW hf
                  have v74 : aq.tmps[74]? = some (.bool true) := hf.val 12 74 (by kernel_rfl) rfl
                  clear hf
                  refine wpOp_flow rfl (by rfl) (fun Kq hK => ?_)
                  go_simp
                  exact hK _ _ ⟨rfl, hSW⟩
                | 14, _ =>
                  intro aq W hSW hf
                  have v75 : aq.tmps[75]? = some (.bool true) := hf.val 13 75 (by kernel_rfl) rfl
                  clear hf
                  refine wpOp_flow rfl (wanted_of rfl rfl v75) (fun Kq hK => ?_)
                  go_simp
                  refine (awake_any W).mono ?_
                  rintro e w19 ⟨rfl, B19⟩
                  exact hK _ _ ⟨rfl, hSW.trans (B19.mono hSW.size)⟩
                | 15, _ =>
                  intro aq W hSW hf
                  have v75 : aq.tmps[75]? = some (.bool true) := hf.val 13 75 (by kernel_rfl) rfl
                  have v76 : aq.tmps[76]? = some (.bool true) := hf.val 14 76 (by kernel_rfl) rfl
                  clear hf
                  refine wpOp_flow rfl (by rfl) (fun Kq hK => ?_)
                  go_simp
                  exact hK _ _ ⟨rfl, hSW⟩
                | 16, _ =>
                  intro aq W hSW hf
                  have v77 : aq.tmps[77]? = some (.bool true) := hf.val 15 77 (by kernel_rfl) rfl
                  clear hf
                  refine wpOp_flow rfl (by rfl) (fun Kq hK => ?_)
                  go_simp
                  exact hK _ _ ⟨rfl, hSW⟩
                | kq + 17, hk => exact absurd hk (by first | omega | (intro h; simp at h; omega))
              · simp only [puts, Act.put, List.setIfInBounds_toArray, List.set_cons_zero, List.set_cons_succ]
                have HB2 := hidp (HS.out.bel.trans (hSW.mono HS.out.bel.size))
                clear hSW
                go_wp2
                go_ret
                exact ⟨rfl, HB2.out⟩
            | true =>
              have HD := hidp (show decide (p ∈ D) = !sameA a1 a2 by rw [← HDC.out]; rfl)
              clear HDC
              refine wp_region_flow2 (fun iqv => ([(.bool true : Value), (.bool true : Value), (.bool false : Value), (.bool false : Value), (.agg a1.cells.toArray : Value), (.agg a2.cells.toArray : Value), (.bool (sameA a1 a2) : Value), (.bool (!sameA a1 a2) : Value), (.bool (!sameA a1 a2) : Value), (.slice ac dl cc : Value), (.agg #[.int .u32 (p.a : Int), .int .i64 p.l] : Value), (.bool (!sameA a1 a2) : Value), (.bool true : Value), (.bool true : Value), (.bool true : Value), (.bool true : Value), (.bool true : Value)] : List Value).getD iqv undef) [(some 62, .bool true), (some 63, .bool true), (some 64, .bool false), (some 65, .bool false), (some 66, .agg a1.cells.toArray), (some 67, .agg a2.cells.toArray), (some 68, .bool (sameA a1 a2)), (some 69, .bool (!sameA a1 a2)), (some 70, .bool (!sameA a1 a2)), (some 71, .slice ac dl cc), (some 72, .agg #[.int .u32 (p.a : Int), .int .i64 p.l]), (some 73, .bool (!sameA a1 a2)), (some 74, .bool true), (some 75, .bool true), (some 76, .bool true), (some 77, .bool true), (some 6, .bool true)] (fun W : World => Below w9.heap.size w9 W) (by kernel_rfl) (by kernel_rfl) ((Below.refl _ _).drew) (fun iq hiq => ?_) (by kernel_rfl) (fun W hSW => ?_)
              · match iq, hiq with
                | 0, _ =>
                  intro aq W hSW hf
                  have v10 : aq.tmps[10]? = some (.bool true) := (hf.at_base 10 (by kernel_rfl)).trans rfl
                  clear hf
                  refine wpOp_flow rfl (by rfl) (fun Kq hK => ?_)
                  go_simp
                  exact hK _ _ ⟨rfl, hSW⟩
                | 1, _ =>
                  intro aq W hSW hf
                  have v15 : aq.tmps[15]? = some (.bool true) := (hf.at_base 15 (by kernel_rfl)).trans rfl
                  clear hf
                  refine wpOp_flow rfl (by rfl) (fun Kq hK => ?_)
                  go_simp
                  exact hK _ _ ⟨rfl, hSW⟩
                | 2, _ =>
                  intro aq W hSW hf
                  have v62 : aq.tmps[62]? = some (.bool true) := hf.val 0 62 (by kernel_rfl) rfl
                  have v63 : aq.tmps[63]? = some (.bool true) := hf.val 1 63 (by kernel_rfl) rfl
                  clear hf
                  refine wpOp_flow rfl (by rfl) (fun Kq hK => ?_)
                  go_simp
                  exact hK _ _ ⟨rfl, hSW⟩
                | 3, _ =>
                  intro aq W hSW hf
                  have v64 : aq.tmps[64]? = some (.bool false) := hf.val 2 64 (by kernel_rfl) rfl
                  clear hf
                  refine wpOp_flow rfl (by rfl) (fun Kq hK => ?_)
                  go_simp
                  exact hK _ _ ⟨rfl, hSW⟩
                | 4, _ =>
                  intro aq W hSW hf
                  have v9 : aq.tmps[9]? = some (.pointer (some ⟨B1, 0, none⟩)) := (hf.at_base 9 (by kernel_rfl)).trans rfl
                  have v65 : aq.tmps[65]? = some (.bool false) := hf.val 3 65 (by kernel_rfl) rfl
                  clear hf
                  refine wpOp_flow rfl (wanted_of rfl rfl v65) (fun Kq hK => ?_)
                  refine wp_load_row 37 (.tmp 9) rfl B1 (eval_of v9) 37 a1.cells.toArray (0, 0) _ (K1.out W hSW) Try.underlying37 rfl Try.info37 (hK _ _ ⟨rfl, hSW⟩)
                | 5, _ =>
                  intro aq W hSW hf
                  have v14 : aq.tmps[14]? = some (.pointer (some ⟨B2, 0, none⟩)) := (hf.at_base 14 (by kernel_rfl)).trans rfl
                  have v65 : aq.tmps[65]? = some (.bool false) := hf.val 3 65 (by kernel_rfl) rfl
                  clear hf
                  refine wpOp_flow rfl (wanted_of rfl rfl v65) (fun Kq hK => ?_)
                  refine wp_load_row 37 (.tmp 14) rfl B2 (eval_of v14) 37 a2.cells.toArray (0, 0) _ (K2.out W hSW) Try.underlying37 rfl Try.info37 (hK _ _ ⟨rfl, hSW⟩)
                | 6, _ =>
                  intro aq W hSW hf
                  have v65 : aq.tmps[65]? = some (.bool false) := hf.val 3 65 (by kernel_rfl) rfl
                  have v66 : aq.tmps[66]? = some (.agg a1.cells.toArray) := hf.val 4 66 (by kernel_rfl) rfl
                  have v67 : aq.tmps[67]? = some (.agg a2.cells.toArray) := hf.val 5 67 (by kernel_rfl) rfl
                  clear hf
                  refine wpOp_flow rfl (wanted_of rfl rfl v65) (fun Kq hK => ?_)
                  go_simp
                  refine (H20.out W hSW).mono ?_
                  rintro e w19 ⟨rfl, B19⟩
                  exact hK _ _ ⟨rfl, hSW.trans (B19.mono hSW.size)⟩
                | 7, _ =>
                  intro aq W hSW hf
                  have v65 : aq.tmps[65]? = some (.bool false) := hf.val 3 65 (by kernel_rfl) rfl
                  have v68 : aq.tmps[68]? = some (.bool (sameA a1 a2)) := hf.val 6 68 (by kernel_rfl) rfl
                  clear hf
                  refine wpOp_flow rfl (wanted_of rfl rfl v65) (fun Kq hK => ?_)
                  go_simp
                  exact hK _ _ ⟨rfl, hSW⟩
                | 8, _ =>
                  intro aq W hSW hf
                  have v65 : aq.tmps[65]? = some (.bool false) := hf.val 3 65 (by kernel_rfl) rfl
                  have v69 : aq.tmps[69]? = some (.bool (!sameA a1 a2)) := hf.val 7 69 (by kernel_rfl) rfl
                  clear hf
                  refine wpOp_flow rfl (by rfl) (fun Kq hK => ?_)
                  go_simp
                  exact hK _ _ ⟨rfl, hSW⟩
                | 9, _ =>
                  intro aq W hSW hf
                  have v12 : aq.tmps[12]? = some (.slice ac dl cc) := (hf.at_base 12 (by kernel_rfl)).trans rfl
                  clear hf
                  refine wpOp_flow rfl (by rfl) (fun Kq hK => ?_)
                  go_simp
                  exact hK _ _ ⟨rfl, hSW⟩
                | 10, _ =>
                  intro aq W hSW hf
                  have v5 : aq.tmps[5]? = some (.pointer (some ⟨w.heap.size + 1, 0, none⟩)) := (hf.at_base 5 (by kernel_rfl)).trans rfl
                  clear hf
                  refine wpOp_flow rfl (by rfl) (fun Kq hK => ?_)
                  have d0 := cellOf (KP.out W hSW) 0 (v := .int .u32 (p.a : Int)) rfl
                  have d1 := cellOf (KP.out W hSW) 1 (v := .int .i64 p.l) rfl
                  go_simp
                  exact hK _ _ ⟨rfl, hSW⟩
                | 11, _ =>
                  intro aq W hSW hf
                  have v71 : aq.tmps[71]? = some (.slice ac dl cc) := hf.val 9 71 (by kernel_rfl) rfl
                  have v72 : aq.tmps[72]? = some (.agg #[.int .u32 (p.a : Int), .int .i64 p.l]) := hf.val 10 72 (by kernel_rfl) rfl
                  clear hf
                  refine wpOp_flow rfl (by rfl) (fun Kq hK => ?_)
                  go_simp
                  refine (H21.out W hSW).mono ?_
                  rw [HD.out]
                  rintro e w19 ⟨rfl, B19⟩
                  exact hK _ _ ⟨rfl, hSW.trans (B19.mono hSW.size)⟩
                | 12, _ =>
                  intro aq W hSW hf
                  have v70 : aq.tmps[70]? = some (.bool (!sameA a1 a2)) := hf.val 8 70 (by kernel_rfl) rfl
                  have v73 : aq.tmps[73]? = some (.bool (!sameA a1 a2)) := hf.val 11 73 (by kernel_rfl) rfl
                  clear hf
                  refine wpOp_flow rfl (by rfl) (fun Kq hK => ?_)
                  have hb : ∀ x : Bool, (x == x) = true := fun x => by cases x <;> rfl
                  go_simp
                  exact hK _ _ ⟨rfl, hSW⟩
                | 13, _ =>
                  intro aq W hSW hf
                  have v74 : aq.tmps[74]? = some (.bool true) := hf.val 12 74 (by kernel_rfl) rfl
                  clear hf
                  refine wpOp_flow rfl (by rfl) (fun Kq hK => ?_)
                  go_simp
                  exact hK _ _ ⟨rfl, hSW⟩
                | 14, _ =>
                  intro aq W hSW hf
                  have v75 : aq.tmps[75]? = some (.bool true) := hf.val 13 75 (by kernel_rfl) rfl
                  clear hf
                  refine wpOp_flow rfl (wanted_of rfl rfl v75) (fun Kq hK => ?_)
                  go_simp
                  refine (awake_any W).mono ?_
                  rintro e w19 ⟨rfl, B19⟩
                  exact hK _ _ ⟨rfl, hSW.trans (B19.mono hSW.size)⟩
                | 15, _ =>
                  intro aq W hSW hf
                  have v75 : aq.tmps[75]? = some (.bool true) := hf.val 13 75 (by kernel_rfl) rfl
                  have v76 : aq.tmps[76]? = some (.bool true) := hf.val 14 76 (by kernel_rfl) rfl
                  clear hf
                  refine wpOp_flow rfl (by rfl) (fun Kq hK => ?_)
                  go_simp
                  exact hK _ _ ⟨rfl, hSW⟩
                | 16, _ =>
                  intro aq W hSW hf
                  have v77 : aq.tmps[77]? = some (.bool true) := hf.val 15 77 (by kernel_rfl) rfl
                  clear hf
                  refine wpOp_flow rfl (by rfl) (fun Kq hK => ?_)
                  go_simp
                  exact hK _ _ ⟨rfl, hSW⟩
                | kq + 17, hk => exact absurd hk (by first | omega | (intro h; simp at h; omega))
              · simp only [puts, Act.put, List.setIfInBounds_toArray, List.set_cons_zero, List.set_cons_succ]
                have HB2 := hidp (HS.out.bel.trans (hSW.mono HS.out.bel.size))
                clear hSW
                go_wp2
                go_ret
                exact ⟨rfl, HB2.out⟩
end Go.Proofs.Ytnenpfalhbbadaa
