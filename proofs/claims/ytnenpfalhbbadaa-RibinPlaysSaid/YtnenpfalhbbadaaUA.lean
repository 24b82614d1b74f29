/- All routes, as a list. -/
import Derived.Test.YtnenpfalhbbadaaQL
import Derived.Test.YtnenpfalhbbadaaTC
namespace Go.Proofs.Ytnenpfalhbbadaa
open Go.RowKit

/-- an entry -/
structure En where
  p : Pf
  fr : Int
  att : Att
def En.cells (e : En) : List Value := e.p.cells ++ (.int .i64 e.fr :: e.att.cells)
theorem En.len (e : En) : e.cells.length = 14 := rfl
theorem En.one (e : En) : ∀ u ∈ e.cells, u.oneCell' = true := by
  intro u hu
  simp [En.cells, Pf.cells, Att.cells] at hu
  rcases hu with rfl | rfl | rfl | rfl | rfl | rfl | rfl | rfl | rfl | rfl | rfl | rfl | rfl | rfl <;> rfl
theorem ens_len : ∀ l : List En, (l.flatMap En.cells).length = l.length * 14
  | [] => rfl
  | p :: r => by rw [List.flatMap_cons, List.length_append, ens_len r, En.len, List.length_cons]; omega
def zero63 : Value := .agg #[.int .u32 0, .int .i64 0, .int .i64 0, .int .i64 0, .slice none 0 0, .int .u32 0, .int .i64 0, .int .i64 0, .bool false, .bool false, .int .u32 0, .int .u32 0, .slice none 0 0, .slice none 0 0]
theorem Try.infos63 : (Try.prog.info? 63).map (fun i => (i.zero, i.size, i.bytes)) = some (some zero63, 14, 144) := by kernel_rfl
/-- entries lie in a row -/
structure EnsV (wA w : World) (a : Option Addr) (n : Nat) (L : List En) : Prop where
  row : RowV w a n 14 (L.flatMap En.cells)
  len : L.length = n
  ok : ∀ e ∈ L, e.p.ok ∧ e.att.at wA
theorem EnsV.below {wA w w' : World} {a : Option Addr} {n : Nat} {L : List En} (h : EnsV wA w a n L) (hB : Below w.heap.size w w') : EnsV wA w' a n L := ⟨h.row.below hB, h.len, h.ok⟩
/-- what the routes are, as a list -/
def entA (A : Ab) : List En := (keysA A).map fun p => ⟨p, 0, (getA A p).1⟩
/-- while one more is laid behind the list -/
structure EB (w2 w5 : World) (A : Ab) (j : Nat) (e : En) (vo : Value) (d7 d8 : Bool) (g : Nat × Value) (W : World) : Prop where
  bel : d8 = false → Below w5.heap.size w5 W
  new : d7 = true → d8 = false → w5.heap.size ≤ g.1 ∧ W.heap[g.1]? = some (.cells e.cells.toArray 63 (0, 0))
  fin : d8 = true → Below w2.heap.size w2 W ∧ W.ownsRow w2.heap.size 63 14 g.2 (((entA A).take j).length + 1) (((entA A).take j).flatMap En.cells ++ e.cells)
theorem EB.s7 {w2 w5 W : World} {A : Ab} {j : Nat} {e : En} {vo : Value} {d7 d8 : Bool} {g : Nat × Value} (h : EB w2 w5 A j e vo d7 d8 g W) (h8 : d8 = false) : EB w2 w5 A j e vo true d8 (W.heap.size, g.2) (W.alloc (.cells e.cells.toArray 63)) :=
  ⟨fun _ => (h.bel h8).trans (((Below.refl W.heap.size W).alloc (Nat.le_refl _) _).mono (h.bel h8).size), fun _ _ => ⟨(h.bel h8).size, heap_alloc_new _ _⟩, fun h => by rw [h8] at h; cases h⟩
theorem ens_new {W : World} {b : Nat} {e : En} (h : W.heap[b]? = some (.cells e.cells.toArray 63 (0, 0))) : ∀ j u, e.cells[j]? = some u → W.cell? ((⟨b, 0, none⟩ : Addr).add j) = some u := fun j u hu => by
  rw [Addr.add_lit]
  exact cellOf h _ (by rw [Nat.zero_add]; simpa using hu)
theorem foldEn {p : Pf} {a : Att} : List.foldl (fun (cs : Array Value) (x : Value × Nat) => cs.setIfInBounds (3 + x.snd) x.fst) #[.int .u32 (p.a : Int), .int .i64 p.l, .int .i64 0, .int .i64 0, .slice none 0 0, .int .u32 0, .int .i64 0, .int .i64 0, .bool false, .bool false, .int .u32 0, .int .u32 0, .slice none 0 0, .slice none 0 0] a.cells.zipIdx = (En.cells ⟨p, 0, a⟩).toArray := by
  unfold En.cells Att.cells Pf.cells
  simp
theorem foldEn2 {e : En} : List.foldl (fun (cs : Array Value) (x : Value × Nat) => cs.setIfInBounds x.snd x.fst) #[.int .u32 0, .int .i64 0, .int .i64 0, .int .i64 0, .slice none 0 0, .int .u32 0, .int .i64 0, .int .i64 0, .bool false, .bool false, .int .u32 0, .int .u32 0, .slice none 0 0, .slice none 0 0] e.cells.zipIdx = e.cells.toArray := by
  unfold En.cells Att.cells Pf.cells
  simp
theorem keys_ok {wA W : World} : ∀ {t : Tr}, t.at wA W → ∀ p ∈ keysA t.ab, p.ok
  | .nil, _, p, hp => absurd hp (by simp [Tr.ab, keysA])
  | .node b q h v l r, ht, p, hp => by
    obtain ⟨-, h2, -, h4, h5⟩ := ht
    simp only [Tr.ab, keysA] at hp
    rcases List.mem_append.1 hp with hp | hp
    · split at hp
      · simp at hp; subst hp; exact h2
      · cases hp
    · rcases List.mem_append.1 hp with hp | hp
      · exact keys_ok h4 p hp
      · exact keys_ok h5 p hp
theorem in_keys {wA W : World} {x : Option Addr} {A : Ab} {n lim : Int} (h : InAt wA W x A n lim) : ∀ p ∈ keysA A, p.ok := by
  rcases h with ⟨-, rfl, -, -⟩ | ⟨b, bt, t, -, -, h3, rfl⟩
  · intro p hp; cases hp
  · exact keys_ok h3.tree
set_option maxRecDepth 100000 in
set_option maxHeartbeats 8000000 in
theorem entries_any (wA : World) (x : Option Addr) (A : Ab) (m lim : Int) (w : World) (h : InAt wA w x A m lim) (hc : rootIn ⟨0, 0⟩ A) (hlen : (keysA A).length ≤ 1000) :
    Calls Try.prog 10 #[.pointer x] w fun e w' => (∃ v, e = .returned v ∧ w'.ownsRow w.heap.size 63 14 v (entA A).length ((entA A).flatMap En.cells)) ∧ Below w.heap.size w w' := by
  obtain ⟨i0, hi0, hz0, hz1, hz2⟩ := info_parts Try.infos63
  have H := hidp h
  have HC := hidp hc
  have HOK := hidp (in_keys h)
  have HLE := hidp hlen
  clear h hc
  go_enter Try.func10, Try.ntmps10
  go_wp2_with (go_at_call 16; go_must (
    refine (keys_any wA x A m lim _ H.out HC.out (by omega)).mono ?_
    rintro e w2 ⟨⟨vk, rfl, hk⟩, B2⟩
    have H2 := hidp (H.out.below B2)
    have HB2 := hidp B2
    obtain ⟨ak, ck, rfl, hpk⟩ := own_pfs hk HOK.out
    have HPK := hidp hpk
    clear hk hpk B2))
  obtain ⟨nk, hnk⟩ : ∃ nk, (keysA A).length = nk := ⟨_, rfl⟩
  rw [hnk] at HPK HLE ⊢
  have hle : nk ≤ 1000 := HLE.out
  have HEL := hidp (show (entA A).length = nk by unfold entA; rw [List.length_map]; exact hnk)
  clear hnk hlen
  go_loopw [3, 5] (fun vo i wr => ∃ j : Nat, j ≤ nk ∧ i = .int .i64 (j : Int) ∧ Hid (Below w2.heap.size w2 wr) ∧ Hid (wr.ownsRow w2.heap.size 63 14 vo ((entA A).take j).length (((entA A).take j).flatMap En.cells))) (fun _ i _ => nk - (intOf i).toNat)
  case atStart => exact ⟨0, by omega, rfl, Below.refl _ _, World.ownsRow_nil _ _ _ _⟩
  case round =>
    obtain ⟨j, hj, rfl, HB, HO⟩ := hrel
    by_cases hlt : j < nk
    · have l1 : (j : Int) < (nk : Int) := by omega
      obtain ⟨g0, o0, eg, hrw⟩ := (HPK.out.below HB.out).row (by omega)
      have hjl : j < (keysA A).length := by rw [HPK.out.2.1]; exact hlt
      obtain ⟨c0, c1⟩ := hrw j hjl
      have hok := HPK.out.2.2 _ (List.getElem_mem hjl)
      have HTK := hidp (show (entA A).take (j + 1) = (entA A).take j ++ [⟨(keysA A)[j], 0, (getA A (keysA A)[j]).1⟩] by
        have : j < (entA A).length := by rw [HEL.out]; exact hlt
        rw [List.take_succ_eq_append_getElem this]
        simp [entA])
      generalize (keysA A)[j] = p at *
      obtain ⟨at_, ok, hga⟩ : ∃ a ok, getA A p = (a, ok) := ⟨_, _, rfl⟩
      have HG := hidp (fun W (h : InAt wA W x A m lim) => iget_any wA x A m lim p hok W h)
      have hpv : p.val = .agg #[.int .u32 (p.a : Int), .int .i64 p.l] := rfl
      have hav : at_.val = .agg at_.cells.toArray := rfl
      rw [hga, hpv] at HG
      rw [hga] at HTK
      simp only [hav] at HG
      have hi1 : Hid ((Try.prog.info? 37).map (·.size) = some at_.cells.toArray.size) := Try.info37
      clear hrw hjl hok hga hpv hav
      subst eg
      go_upto_region 7 with (first
        | (go_at_call 14; go_must (
           refine (HG.out _ (H2.out.below HB.out)).mono ?_
           rintro e w4 ⟨rfl, B4⟩
           have HB4 := hidp (HB.out.trans (B4.mono HB.out.size))
           have HO4 := hidp (ownsRow_below HO.out B4 (Nat.le_refl _))
           have e0 := below_cell B4 (Nat.le_refl _) _ _ c0
           have e1 := below_cell B4 (Nat.le_refl _) _ _ c1
           clear B4 c0 c1))
        | (with_reducible refine wpList_store_row rfl 37 (.tmp 6) (.tmp 23) rfl w4.heap.size at_.cells.toArray rfl rfl 37 _ (heap_alloc_new _ _) hi1.out rfl at_.all_one ?_
           rw [alloc_fill _ rfl]))
      obtain ⟨B6, hB6⟩ : ∃ B6, B6 = w4.heap.size := ⟨_, rfl⟩
      have hb5 := (Below.refl w4.heap.size w4).alloc (Nat.le_refl _) (.cells at_.cells.toArray 37)
      have HB5 := hidp (HB4.out.trans (hb5.mono HB4.out.size))
      have HO5 := hidp (ownsRow_below HO4.out hb5 (Nat.le_refl _))
      have f0 := below_cell hb5 (Nat.le_refl _) _ _ e0
      have f1 := below_cell hb5 (Nat.le_refl _) _ _ e1
      have hk5 := heap_alloc_new w4 (.cells at_.cells.toArray 37)
      change Code.wp Try.prog _ _ _ (w4.alloc (.cells at_.cells.toArray 37))
      rw [← hB6] at hk5 ⊢
      generalize w4.alloc (.cells at_.cells.toArray 37) = w5 at *
      have K6 := hidp (fun W (hW : Below w5.heap.size w5 W) => (show W.heap[B6]? = some (.cells at_.cells.toArray 37 (0, 0)) from heap_below hW hk5 (ltOf hk5)))
      have C0 := hidp (fun W (hW : Below w5.heap.size w5 W) => below_cell hW (Nat.le_refl _) _ _ f0)
      have C1 := hidp (fun W (hW : Below w5.heap.size w5 W) => below_cell hW (Nat.le_refl _) _ _ f1)
      have L1 := hidp l1
      have HTL := hidp (show ((entA A).take j).length ≤ 1000 by rw [List.length_take]; omega)
      obtain ⟨vo, hvo⟩ : ∃ vo, vo = u3 := ⟨_, rfl⟩
      rw [← hvo] at HO5 ⊢
      clear hb5 e0 e1 f0 f1 hk5 hB6 hvo HO HO4 HB4
      refine wp_region_flowH (G := Nat × Value) (fun g iqv => ([(vo : Value), (.slice (some ⟨g0, o0, none⟩) nk ck : Value), (.int .i64 (j : Int) : Value), (.pointer (some ⟨g0, o0 + j * 2, none⟩) : Value), (.agg #[.int .u32 (p.a : Int), .int .i64 p.l] : Value), (.agg at_.cells.toArray : Value), (.agg (En.cells ⟨p, 0, at_⟩).toArray : Value), (.slice (some ⟨g.1, 0, none⟩) 1 1 : Value), (g.2 : Value), (g.2 : Value)] : List Value).getD iqv undef) (fun d g W => EB w2 w5 A j ⟨p, 0, at_⟩ vo (d 7) (d 8) g W) ((0, undef)) (fun g => [(some 25, vo), (some 26, .slice (some ⟨g0, o0, none⟩) nk ck), (some 27, .int .i64 (j : Int)), (some 28, .pointer (some ⟨g0, o0 + j * 2, none⟩)), (some 29, .agg #[.int .u32 (p.a : Int), .int .i64 p.l]), (some 30, .agg at_.cells.toArray), (some 31, .agg (En.cells ⟨p, 0, at_⟩).toArray), (some 32, .slice (some ⟨g.1, 0, none⟩) 1 1), (some 33, g.2), (some 3, g.2)]) (by kernel_rfl) (by kernel_rfl) ⟨fun _ => (Below.refl _ _).drew, fun h => (by cases h), fun h => (by cases h)⟩ (fun iq hiq => ?_) (fun g => by kernel_rfl) (fun d g W hall hJ => ?_)
      · match iq, hiq with
        | 0, _ =>
          intro d g aq W hdi hw hcl hJ hf hbd
          have v3 : aq.tmps[3]? = some (vo) := (hbd.but 3 9 (by kernel_rfl) (by cases hq : d 9 with | false => rfl | true => exact absurd ((hcl 8 (hcl 9 hq 8 (by kernel_rfl)) 0 (by kernel_rfl)).symm.trans hdi) (by decide))).trans rfl
          clear hf hbd
          refine wpOp_flow rfl (by rfl) (fun Kq hK => ?_)
          go_simp
          exact hK _ _ ⟨g, rfl, hJ, fun _ _ => rfl⟩
        | 1, _ =>
          intro d g aq W hdi hw hcl hJ hf hbd
          have v4 : aq.tmps[4]? = some (.slice (some ⟨g0, o0, none⟩) nk ck) := (hf.at_base 4 (by kernel_rfl)).trans rfl
          clear hf hbd
          refine wpOp_flow rfl (by rfl) (fun Kq hK => ?_)
          go_simp
          exact hK _ _ ⟨g, rfl, hJ, fun _ _ => rfl⟩
        | 2, _ =>
          intro d g aq W hdi hw hcl hJ hf hbd
          have v5 : aq.tmps[5]? = some (.int .i64 (j : Int)) := (hf.at_base 5 (by kernel_rfl)).trans rfl
          clear hf hbd
          refine wpOp_flow rfl (by rfl) (fun Kq hK => ?_)
          go_simp
          exact hK _ _ ⟨g, rfl, hJ, fun _ _ => rfl⟩
        | 3, _ =>
          intro d g aq W hdi hw hcl hJ hf hbd
          have v26 : aq.tmps[26]? = some (.slice (some ⟨g0, o0, none⟩) nk ck) := hf.val 1 26 (by kernel_rfl) rfl
          have v27 : aq.tmps[27]? = some (.int .i64 (j : Int)) := hf.val 2 27 (by kernel_rfl) rfl
          clear hf hbd
          refine wpOp_flow rfl (by rfl) (fun Kq hK => ?_)
          have l1 := L1.out
          go_simp
          exact hK _ _ ⟨g, rfl, hJ, fun _ _ => rfl⟩
        | 4, _ =>
          intro d g aq W hdi hw hcl hJ hf hbd
          have v28 : aq.tmps[28]? = some (.pointer (some ⟨g0, o0 + j * 2, none⟩)) := hf.val 3 28 (by kernel_rfl) rfl
          clear hf hbd
          refine wpOp_flow rfl (by rfl) (fun Kq hK => ?_)
          have h8 : d 8 = false := (by cases hq : d 8 with | false => rfl | true => exact absurd ((hcl 6 (hcl 7 (hcl 8 hq 7 (by kernel_rfl)) 6 (by kernel_rfl)) 4 (by kernel_rfl)).symm.trans hdi) (by decide))
          have c0 := C0.out W (hJ.bel h8)
          have c1 := C1.out W (hJ.bel h8)
          go_simp
          exact hK _ _ ⟨g, rfl, hJ, fun _ _ => rfl⟩
        | 5, _ =>
          intro d g aq W hdi hw hcl hJ hf hbd
          have v6 : aq.tmps[6]? = some (.pointer (some ⟨B6, 0, none⟩)) := (hf.at_base 6 (by kernel_rfl)).trans rfl
          clear hf hbd
          refine wpOp_flow rfl (by rfl) (fun Kq hK => ?_)
          have h8 : d 8 = false := (by cases hq : d 8 with | false => rfl | true => exact absurd ((hcl 6 (hcl 7 (hcl 8 hq 7 (by kernel_rfl)) 6 (by kernel_rfl)) 5 (by kernel_rfl)).symm.trans hdi) (by decide))
          refine wp_load_row 37 (.tmp 6) rfl B6 (eval_of v6) 37 at_.cells.toArray (0, 0) _ (K6.out W (hJ.bel h8)) Try.underlying37 rfl Try.info37 (hK _ _ ⟨g, rfl, hJ, fun _ _ => rfl⟩)
        | 6, _ =>
          intro d g aq W hdi hw hcl hJ hf hbd
          have v29 : aq.tmps[29]? = some (.agg #[.int .u32 (p.a : Int), .int .i64 p.l]) := hf.val 4 29 (by kernel_rfl) rfl
          have v30 : aq.tmps[30]? = some (.agg at_.cells.toArray) := hf.val 5 30 (by kernel_rfl) rfl
          clear hf hbd
          refine wpOp_flow rfl (by rfl) (fun Kq hK => ?_)
          have hl11 : at_.cells.length = 11 := Att.len at_
          go_simp
          rw [foldEn]
          exact hK _ _ ⟨g, rfl, hJ, fun _ _ => rfl⟩
        | 7, _ =>
          intro d g aq W hdi hw hcl hJ hf hbd
          have v31 : aq.tmps[31]? = some (.agg (En.cells ⟨p, 0, at_⟩).toArray) := hf.val 6 31 (by kernel_rfl) rfl
          clear hf hbd
          refine wpOp_flow rfl (by rfl) (fun Kq hK => ?_)
          have h8 : d 8 = false := (by cases hq : d 8 with | false => rfl | true => exact absurd ((hcl 8 hq 7 (by kernel_rfl)).symm.trans hdi) (by decide))
          have hl14 : (En.cells ⟨p, 0, at_⟩).length = 14 := En.len _
          go_simp
          rw [foldEn2]
          exact hK _ _ ⟨(W.heap.size, g.2), rfl, hJ.s7 h8, (fun j hj => match j, hj with | 0, _ => rfl | 1, _ => rfl | 2, _ => rfl | 3, _ => rfl | 4, _ => rfl | 5, _ => rfl | 6, _ => rfl | 7, hj => absurd (hj.symm.trans hdi) (by decide) | 8, _ => rfl | 9, _ => rfl | _ + 10, _ => rfl)⟩
        | 8, _ =>
          intro d g aq W hdi hw hcl hJ hf hbd
          have v25 : aq.tmps[25]? = some (vo) := hf.val 0 25 (by kernel_rfl) rfl
          have v32 : aq.tmps[32]? = some (.slice (some ⟨g.1, 0, none⟩) 1 1) := hf.val 7 32 (by kernel_rfl) rfl
          clear hf hbd
          refine wpOp_flow rfl (by rfl) (fun Kq hK => ?_)
          refine wp_append_own W (.tmp 25) (.tmp 32) 27 rfl w2.heap.size 63 i0 zero63 14 144 Try.underlying27 hi0 hz0 hz1 hz2 rfl (by omega) vo _ _ (eval_of v25) (ownsRow_below HO5.out (hJ.bel hdi) (Nat.le_refl _)) ⟨g.1, 0, none⟩ 1 1 (En.cells ⟨p, 0, at_⟩) (eval_of v32) rfl (ens_new (hJ.new (hw 7 (by kernel_rfl)) hdi).2) (En.one _) (by have := HTL.out; simp only [maxLen]; omega) (by have := HTL.out; omega) (Nat.le_trans HB5.out.size (hJ.bel hdi).size) ?_
          intro v1 w19 hown1 hg1 _
          exact hK _ _ ⟨(g.1, v1), rfl, ⟨fun h => (by cases h), fun _ h => (by cases h), fun _ => ⟨(HB5.out.trans ((hJ.bel hdi).mono HB5.out.size)).grown hg1 (Nat.le_trans HB5.out.size (hJ.bel hdi).size) (fun k hk => (ownsRow_blk HO5.out k hk).1), hown1⟩⟩, (fun j hj => match j, hj with | 0, _ => rfl | 1, _ => rfl | 2, _ => rfl | 3, _ => rfl | 4, _ => rfl | 5, _ => rfl | 6, _ => rfl | 7, _ => rfl | 8, hj => absurd (hj.symm.trans hdi) (by decide) | 9, hj => absurd ((hcl 9 hj 8 (by kernel_rfl)).symm.trans hdi) (by decide) | _ + 10, _ => rfl)⟩
        | 9, _ =>
          intro d g aq W hdi hw hcl hJ hf hbd
          have v33 : aq.tmps[33]? = some (g.2) := hf.val 8 33 (by kernel_rfl) rfl
          clear hf hbd
          refine wpOp_flow rfl (by rfl) (fun Kq hK => ?_)
          go_simp
          exact hK _ _ ⟨g, rfl, hJ, fun _ _ => rfl⟩
        | kq + 10, hk => exact absurd hk (by first | omega | (intro h; simp at h; omega))
      · simp only [puts, Act.put, List.setIfInBounds_toArray, List.set_cons_zero, List.set_cons_succ]
        have hfin := hJ.fin (hall 8 (by decide))
        have HF := hidp hfin
        clear hfin hJ hall
        go_wp2
        go_roundw
        case rel =>
          refine ⟨j + 1, by omega, by go_num, HF.out.1, ?_⟩
          show W.ownsRow _ _ _ _ _ _
          rw [HTK.out, List.length_append, List.flatMap_append]
          simpa using HF.out.2
        case measure => simp [intOf]; omega
    · have l1 : ¬ (j : Int) < (nk : Int) := by omega
      obtain rfl : j = nk := by omega
      have hO := HO.out
      rw [List.take_of_length_le (by rw [HEL.out]; omega)] at hO
      have HR := hidp (And.intro (ownsRow_weaken hO HB2.out.size) (HB2.out.trans (HB.out.mono HB2.out.size)))
      clear hO
      go_wp2
      go_ret
      exact ⟨⟨_, rfl, HR.out.1⟩, HR.out.2⟩
end Go.Proofs.Ytnenpfalhbbadaa
