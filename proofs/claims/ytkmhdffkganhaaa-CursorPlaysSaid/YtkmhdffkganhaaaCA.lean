/- The law's own example. -/
import Derived.Test.YtkmhdffkganhaaaCO
namespace Go.Proofs.Ytkmhdffkganhaaa
open Go.RowKit

def cur0 (owner : Int) : Cur := { id := 0, owner := owner, ver := 0, kind := 0, mode := 0, pa := 0, pl := 0, tab := 0, peer := 0, rx := ⟨#[]⟩, ca := none, cl := 0, cc := 0, cur := 0, out := false, aa := 0, al := 0, age := 0 }
theorem srcV_none (w : World) : SrcV w none 0 [] := ⟨rfl, by simp, fun h => absurd h (by omega)⟩

theorem FrameV.below {b B : Nat} {v : Value} {x y : World} (F : FrameV b v x y) (hB : B ≤ x.heap.size) (hb : B ≤ b) (hv : ∀ g, v.ownBlock = some g → B ≤ g) : Below B x y :=
  ⟨F.os, F.tape, F.output, F.size, fun k hk => F.block k (by omega) (by omega) (fun e => by have := hv k e; omega)⟩
theorem TabIs.low {w : World} {base b : Nat} {v : Value} {L : List Cur} {most life next : Int} (h : TabIs w base b v L most life next) : ∀ g, v.ownBlock = some g → base ≤ g := fun g hg => (ownsRow_block h.own g hg).1
theorem TabIs.frame {w w' : World} {base b : Nat} {v : Value} {L : List Cur} {most life next : Int} (h : TabIs w base b v L most life next) {w0 : World} (F : FrameV b v w w') (B : Below base w0 w) (hB : base ≤ w.heap.size) : Below base w0 w' :=
  B.trans (F.below hB h.hb h.low)
set_option maxHeartbeats 2000000 in
theorem awake_any (w : World) : Calls Try.prog 12 #[] w fun e w' => e = .returned (.bool true) ∧ Below w.heap.size w w' := by
  go_enter Try.func12, Try.ntmps12
  go_wp2_with fail
  refine (new_any 1 5 w).mono ?_
  rintro e w1 ⟨b, rfl, T1, hB1⟩
  have hb := T1.hb
  have H1 := hidp (And.intro T1 hB1)
  clear T1 hB1
  go_wp2_with fail
  refine (open_any w.heap.size b _ [] 1 5 0 (cur0 1) [] w1 H1.out.1 (by simp) (by omega) (srcV_none _) (by decide) (by intro _; exact ⟨rfl, rfl⟩) (by intro ad h; cases h)).mono ?_
  rintro e w2 ⟨a2, c2, o2, rfl, (⟨-, rfl, v2, T2⟩ | ⟨h, -⟩), -, F2⟩
  rotate_left
  · exact absurd h (by decide)
  have B2 := H1.out.1.frame F2 H1.out.2 H1.out.2.size
  have H2 := hidp (And.intro T2 B2)
  clear T2 F2 B2
  go_wp2_with fail
  refine (open_any w.heap.size b _ _ 1 5 _ (cur0 1) [] w2 H2.out.1 (by simp) (by omega) (srcV_none _) (by decide) (by intro _; exact ⟨rfl, rfl⟩) (by intro ad h; cases h)).mono ?_
  rintro e w3 ⟨a3, c3, o3, rfl, (⟨h, -⟩ | ⟨-, hO, v3, T3⟩), -, F3⟩
  · exact absurd h (by simp)
  have B3 := H2.out.1.frame F3 H2.out.2 H2.out.2.size
  have eO : (([] ++ [(cur0 1).fresh (0 + 1) a2 c2] ++ [(cur0 1).fresh (0 + 1 + 1) a3 c3]).filter (fun x => x.id == firstId ([] ++ [(cur0 1).fresh (0 + 1) a2 c2] ++ [(cur0 1).fresh (0 + 1 + 1) a3 c3]))) = [(cur0 1).fresh 1 a2 c2] := rfl
  have eT : (([] ++ [(cur0 1).fresh (0 + 1) a2 c2] ++ [(cur0 1).fresh (0 + 1 + 1) a3 c3]).filter (fun x => !(x.id == firstId ([] ++ [(cur0 1).fresh (0 + 1) a2 c2] ++ [(cur0 1).fresh (0 + 1 + 1) a3 c3])))) = [(cur0 1).fresh 2 a3 c3] := rfl
  rw [eO] at hO
  rw [eT] at T3
  have H3 := hidp (And.intro T3 (And.intro B3 hO))
  obtain ⟨ga, gc, rfl, -⟩ := hO.row
  clear T3 F3 B3 hO eO eT H2 H1
  go_wp2_with fail
  refine (get_any w.heap.size b _ _ 1 5 _ 1 2 w3 H3.out.1 (by simp)).mono ?_
  have hI : idxC (isAt 1 2) [(cur0 1).fresh 2 a3 c3] = 0 := rfl
  rintro e w4 ⟨(⟨h, -⟩ | ⟨j, hj, h, rfl⟩), B4⟩
  · rw [hI] at h; exact absurd h (by decide)
  have hj0 : j = 0 := by rw [hI] at h; omega
  subst hj0
  have HB4 := hidp (H3.out.2.1.trans (B4.mono H3.out.2.1.size))
  have H4 := hidp (And.intro (H3.out.1.below B4 (Nat.le_refl _)) (ownsRow_below H3.out.2.2 B4 (Nat.le_refl _)))
  clear B4 h hI H3
  obtain ⟨gb, gd, ge, hR⟩ := OutC.row (L := [(cur0 1).fresh 1 a2 c2]) H4.out.2
  cases ge
  obtain ⟨g, o, rfl, hr⟩ := hR (by simp)
  have hr0 := hr 0 (by simp)
  have p0 : w4.cell? ⟨g, o, none⟩ = some (.int .i64 1) := by
    have := hr0 0 (.int .i64 1) rfl
    simpa using this
  have HP := hidp p0
  have HT := hidp H4.out.1
  clear hr hr0 hR p0 H4
  unfold Cur.val
  generalize [(cur0 1).fresh 2 a3 c3][0] = d
  go_wp2_with (first
    | (with_reducible refine wpList_store_row rfl 34 (.tmp 6) (.tmp 25) rfl w4.heap.size d.cells.toArray rfl rfl 34 _ (heap_alloc_new w4 _) (by rw [List.size_toArray, Cur.len]; exact Try.info34) rfl (all_one d) ?_
       rw [World.setRow_alloc_new]
       have B5 := (Below.refl w4.heap.size w4).alloc (Nat.le_refl _) (.cells d.cells.toArray 34)
       have p5 := below_cell B5 (Nat.le_refl _) _ _ HP.out
       have HT5 := hidp (HT.out.below B5 (Nat.le_refl _))
       have HB5 := hidp (HB4.out.trans (B5.mono HB4.out.size))
       generalize w4.alloc (.cells d.cells.toArray 34) = w5 at *
       clear B5)
    | (go_at_call 16; refine (len_any w.heap.size b _ _ 1 5 _ _ HT5.out).mono ?_; rintro e w6 ⟨rfl, rfl⟩))
  go_ret
  exact ⟨rfl, HB5.out⟩
end Go.Proofs.Ytkmhdffkganhaaa
