/- Keys of a trie, of a peer's routes. -/
import Derived.Test.YtnenpfalhbbadaaQK
namespace Go.Proofs.Ytnenpfalhbbadaa
open Go.RowKit

set_option maxRecDepth 100000 in
set_option maxHeartbeats 4000000 in
theorem tkeys_any (wA : World) (b : Nat) (t : Tr) (n : Int) (p : Pf) (hp : p.ok) (hr : rightF p = true) (w : World) (h : TrieAt wA w b t n) (hc : rootIn p t.ab) (hlen : (keysA t.ab).length ≤ 1000000) :
    Calls Try.prog 35 #[.pointer (some ⟨b, 0, none⟩), p.val] w (GatherE w (keysA t.ab)) := by
  have hB := (Below.refl w.heap.size w).alloc (Nat.le_refl _) (.cells #[.int .u32 (p.a : Int), .int .i64 p.l] 44)
  have k0 := heap_alloc_new w (.cells #[.int .u32 (p.a : Int), .int .i64 p.l] 44)
  have H := hidp (h.below hB)
  have HB := hidp hB
  have K0 := hidp k0
  have HRT := hidp (fun W => right_any p hp W)
  have HBL := hidp (fun W (h : t.at wA W) => below_any wA t p hp W h hc)
  have hpv : p.val = .agg #[.int .u32 (p.a : Int), .int .i64 p.l] := rfl
  rw [hr] at HRT
  rw [hpv] at HRT HBL ⊢
  have HTP := hidp (fun W (h : TrieAt wA W b t n) => top_any wA b t n W h)
  have HGA := hidp (fun W (h : t.at wA W) => gather_any wA W t h W (.slice none 0 0) [] (Below.refl _ _) (World.ownsRow_nil _ _ _ _) (by simpa using hlen))
  clear hB k0 h hpv hr
  go_enter Try.func35, Try.ntmps35
  go_upto_region 1 with (fail)
  change Code.wp Try.prog _ _ _ (w.alloc (.cells #[.int .u32 (p.a : Int), .int .i64 p.l] 44))
  generalize w.alloc (.cells #[.int .u32 (p.a : Int), .int .i64 p.l] 44) = w0 at *
  have d0 := cellOf K0.out 0 (v := .int .u32 (p.a : Int)) rfl
  have d1 := cellOf K0.out 1 (v := .int .i64 p.l) rfl
  go_upto_region 3 with (go_at_call 42; go_must (
                          refine (HRT.out _).mono ?_
                          rintro e w1 ⟨rfl, B1⟩
                          have H1 := hidp (H.out.below B1)
                          have HB1 := hidp (HB.out.trans (B1.mono HB.out.size))
                          have K1 := hidp (heap_below B1 K0.out (ltOf K0.out))
                          clear B1 d0 d1))
  refine wp_region_flowG (G := Value) (fun g iqv => ([(.pointer (some ⟨b, 0, none⟩) : Value), (t.ptr : Value), (.agg #[.int .u32 (p.a : Int), .int .i64 p.l] : Value), (t.ptr : Value), (g : Value), (g : Value)] : List Value).getD iqv undef) (fun d g W => Below w1.heap.size w1 W ∧ (d 4 = true → W.ownsRow w1.heap.size 44 2 g (keysA t.ab).length ((keysA t.ab).flatMap Pf.cells))) (undef) (fun g => [(some 8, .pointer (some ⟨b, 0, none⟩)), (some 9, t.ptr), (some 10, .agg #[.int .u32 (p.a : Int), .int .i64 p.l]), (some 11, t.ptr), (some 12, g), (some 4, g)]) (by kernel_rfl) (by kernel_rfl) ⟨(Below.refl _ _).drew, fun h => (by cases h)⟩ (fun iq hiq => ?_) (fun g => by kernel_rfl) (fun d g W hall hJ => ?_)
  · match iq, hiq with
    | 0, _ =>
      intro d g aq W hdi hw hcl hJ hf
      have v0 : aq.tmps[0]? = some (.pointer (some ⟨b, 0, none⟩)) := (hf.at_base 0 (by kernel_rfl)).trans rfl
      clear hf
      refine wpOp_flow rfl (by rfl) (fun Kq hK => ?_)
      go_simp
      exact hK _ _ ⟨g, rfl, hJ, fun _ _ => rfl⟩
    | 1, _ =>
      intro d g aq W hdi hw hcl hJ hf
      have v8 : aq.tmps[8]? = some (.pointer (some ⟨b, 0, none⟩)) := hf.val 0 8 (by kernel_rfl) rfl
      clear hf
      refine wpOp_flow rfl (by rfl) (fun Kq hK => ?_)
      go_simp
      refine (HTP.out W (H1.out.below hJ.1)).mono ?_
      rintro e w19 ⟨rfl, rfl⟩
      exact hK _ _ ⟨g, rfl, hJ, fun _ _ => rfl⟩
    | 2, _ =>
      intro d g aq W hdi hw hcl hJ hf
      have v3 : aq.tmps[3]? = some (.pointer (some ⟨w.heap.size, 0, none⟩)) := (hf.at_base 3 (by kernel_rfl)).trans rfl
      clear hf
      refine wpOp_flow rfl (by rfl) (fun Kq hK => ?_)
      have k := heap_below hJ.1 K1.out (ltOf K1.out)
      have d0 := cellOf k 0 (v := .int .u32 (p.a : Int)) rfl
      have d1 := cellOf k 1 (v := .int .i64 p.l) rfl
      go_simp
      exact hK _ _ ⟨g, rfl, hJ, fun _ _ => rfl⟩
    | 3, _ =>
      intro d g aq W hdi hw hcl hJ hf
      have v9 : aq.tmps[9]? = some (t.ptr) := hf.val 1 9 (by kernel_rfl) rfl
      have v10 : aq.tmps[10]? = some (.agg #[.int .u32 (p.a : Int), .int .i64 p.l]) := hf.val 2 10 (by kernel_rfl) rfl
      clear hf
      refine wpOp_flow rfl (by rfl) (fun Kq hK => ?_)
      go_simp
      refine (HBL.out W (H1.out.below hJ.1).tree).mono ?_
      rintro e w19 ⟨rfl, B19⟩
      exact hK _ _ ⟨g, rfl, ⟨hJ.1.trans (B19.mono hJ.1.size), (fun h => absurd ((hcl 4 h 3 (by kernel_rfl)).symm.trans hdi) (by decide))⟩, fun _ _ => rfl⟩
    | 4, _ =>
      intro d g aq W hdi hw hcl hJ hf
      have v11 : aq.tmps[11]? = some (t.ptr) := hf.val 3 11 (by kernel_rfl) rfl
      clear hf
      refine wpOp_flow rfl (by rfl) (fun Kq hK => ?_)
      go_simp
      refine (HGA.out W (H1.out.below hJ.1).tree).mono ?_
      rintro e w19 ⟨⟨vq, rfl, hq⟩, B19⟩
      rw [List.nil_append] at hq
      exact hK _ _ ⟨vq, rfl, ⟨hJ.1.trans (B19.mono hJ.1.size), fun _ => ownsRow_weaken hq hJ.1.size⟩, (fun j hj => match j, hj with | 0, _ => rfl | 1, _ => rfl | 2, _ => rfl | 3, _ => rfl | 4, hj => absurd (hj.symm.trans hdi) (by decide) | 5, hj => absurd ((hcl 5 hj 4 (by kernel_rfl)).symm.trans hdi) (by decide) | _ + 6, _ => rfl)⟩
    | 5, _ =>
      intro d g aq W hdi hw hcl hJ hf
      have v12 : aq.tmps[12]? = some (g) := hf.val 4 12 (by kernel_rfl) rfl
      clear hf
      refine wpOp_flow rfl (by rfl) (fun Kq hK => ?_)
      go_simp
      exact hK _ _ ⟨g, rfl, hJ, fun _ _ => rfl⟩
    | kq + 6, hk => exact absurd hk (by first | omega | (intro h; simp at h; omega))
  · simp only [puts, Act.put, List.setIfInBounds_toArray, List.set_cons_zero, List.set_cons_succ]
    have HR := hidp (And.intro (ownsRow_weaken (hJ.2 (hall 4 (by decide))) HB1.out.size) (HB1.out.trans (hJ.1.mono HB1.out.size)))
    clear hJ hall
    go_wp2
    go_ret
    exact ⟨⟨g, rfl, HR.out.1⟩, HR.out.2⟩
theorem keys_any (wA : World) (x : Option Addr) (A : Ab) (n lim : Int) (w : World) (h : InAt wA w x A n lim) (hc : rootIn ⟨0, 0⟩ A) (hlen : (keysA A).length ≤ 1000000) :
    Calls Try.prog 16 #[.pointer x] w (GatherE w (keysA A)) := by
  have HT := hidp (fun W (h : InAt wA W x A n lim) => table_any wA x A n lim W h)
  have H := hidp h
  have HC := hidp hc
  clear h hc
  go_enter Try.func16, Try.ntmps16
  go_wp2_with (first
    | (go_at_call 18; go_must (
       refine (HT.out _ H.out).mono ?_
       rintro e w1 ⟨⟨b, t, rfl, h1, h2⟩, B1⟩
       subst h2
       have H1 := hidp h1
       have HB1 := hidp B1
       clear h1 B1))
    | (go_at_call 35; go_must (
       refine (tkeys_any wA b t n ⟨0, 0⟩ (by unfold Pf.ok; decide) (by decide) _ H1.out HC.out hlen).mono ?_
       rintro e w2 ⟨⟨v, rfl, h1⟩, B2⟩
       have H2 := hidp (ownsRow_weaken h1 HB1.out.size)
       have HB2 := hidp (HB1.out.trans (B2.mono HB1.out.size))
       clear h1 B2)))
  go_ret
  exact ⟨⟨v, rfl, H2.out⟩, HB2.out⟩
end Go.Proofs.Ytnenpfalhbbadaa
