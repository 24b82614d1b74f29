/- The law RibinNobody. -/
import Derived.Test.YtnenpfalhbbadaaRW
import Derived.Test.YtnenpfalhbbadaaRC
namespace Go.Proofs.Ytnenpfalhbbadaa
open Go.RowKit

theorem getA_nil (p : Pf) : getA .nil p = (att0, false) := rfl
theorem delL_nil (n : Int) : ∀ l : List Pf, delL .nil n l = (.nil, n)
  | [] => rfl
  | p :: r => by rw [delL, getA_nil, if_neg (by simp), delL_nil n r]
theorem putL_nil (v : Att) : ∀ l : List Pf, putL v 0 .nil 0 l = (.nil, 0, l.any rightF)
  | [] => rfl
  | p :: r => by
    rw [putL_cons, getA_nil, List.any_cons]
    cases rightF p with
    | true => rfl
    | false => rw [if_neg (by decide), putL_nil v r]; rfl
theorem updA_nil (u : Upd) : updA .nil 0 0 u = (.nil, 0, u.news.any rightF) := by
  unfold updA
  rw [delL_nil]
  exact putL_nil _ _
theorem diffL_none (f : Pf → Bool) (l : List Pf) (h : ∀ p, f p = false) : diffL f l = [] := by
  unfold diffL
  rw [List.filter_eq_nil_iff.2 (fun p _ => by rw [h p]; decide), show sortP [] = [] by simp [sortP]]
  rfl
theorem other_nil (p : Pf) : otherA .nil .nil p = false := rfl
theorem diffU_nil (u : Upd) : diffL (otherA .nil (Ab.nil, (0 : Int), u.news.any rightF).1) (u.gone ++ u.news) = [] := diffL_none _ _ other_nil
structure NJ (w : World) (u : Upd) (p : Pf) (W : World) : Prop where
  bel : Below w.heap.size w W
  ub : W.heap[w.heap.size]? = some (.cells u.cells.toArray 39 (0, 0))
  pb : W.heap[w.heap.size + 1]? = some (.cells #[.int .u32 (p.a : Int), .int .i64 p.l] 44 (0, 0))
  ua : u.at W
theorem NJ.below {w W W' : World} {u : Upd} {p : Pf} (h : NJ w u p W) (hB : Below W.heap.size W W') : NJ w u p W' :=
  ⟨h.bel.trans (hB.mono h.bel.size), heap_below hB h.ub (ltOf h.ub), heap_below hB h.pb (ltOf h.pb), h.ua.below hB⟩
theorem fold13 (u : Upd) : List.foldl (fun (cs : Array Value) (x : Value × Nat) => cs.setIfInBounds x.snd x.fst) #[.slice none 0 0, .int .i64 0, .slice none 0 0, .int .u32 0, .int .i64 0, .int .i64 0, .bool false, .bool false, .int .u32 0, .int .u32 0, .slice none 0 0, .slice none 0 0, .slice none 0 0] u.cells.zipIdx = u.cells.toArray := by
  unfold Upd.cells Att.cells
  simp
theorem one_upds {w : World} {b : Nat} {u : Upd} (h : w.heap[b]? = some (.cells u.cells.toArray 39 (0, 0))) (hu : u.at w) : UpdsV w (some ⟨b, 0, none⟩) 1 [u] :=
  ⟨⟨rfl, fun _ => ⟨b, 0, rfl, by rw [List.flatMap_cons, List.flatMap_nil, List.append_nil]; exact range_of h⟩⟩, rfl, fun x hx => by simp at hx; subst hx; exact hu⟩
set_option maxRecDepth 100000 in
set_option maxHeartbeats 8000000 in
theorem lawNobody_any (u : Upd) (p : Pf) (hp : p.ok) (w : World) (hu : u.at w) : Calls Try.prog 4 #[u.val, p.val] w fun e w' => e = .returned (.bool true) ∧ Below w.heap.size w w' := by
  have hb := ((Below.refl w.heap.size w).alloc (Nat.le_refl _) (.cells u.cells.toArray 39)).alloc (by simp) (.cells #[.int .u32 (p.a : Int), .int .i64 p.l] 44)
  have H0 := hidp (NJ.mk (p := p) hb (heap_alloc_at (heap_alloc_new w _) _) (heap_alloc_top _ _ _ (by simp)) (hu.below hb))
  have HUA := hidp hu.att
  have huv : u.val = .agg u.cells.toArray := rfl
  have hpv : p.val = .agg #[.int .u32 (p.a : Int), .int .i64 p.l] := rfl
  have hiu : Hid ((Try.prog.info? 39).map (·.size) = some u.cells.toArray.size) := Try.info39
  have hi0 : Hid ((Try.prog.info? 37).map (·.size) = some att0.cells.toArray.size) := Try.info37
  rw [huv, hpv]
  clear hb hu
  go_enter Try.func4, Try.ntmps4
  go_upto_region 1 with (fail)
  change Code.wp Try.prog _ _ _ ((w.alloc (.cells u.cells.toArray 39)).alloc (.cells #[.int .u32 (p.a : Int), .int .i64 p.l] 44))
  generalize (w.alloc (.cells u.cells.toArray 39)).alloc (.cells #[.int .u32 (p.a : Int), .int .i64 p.l] 44) = w0 at *
  have hb1 := (Below.refl w0.heap.size w0).alloc (Nat.le_refl _) (.cells u.cells.toArray 39)
  have H1 := hidp (H0.out.below hb1)
  have HL1 := hidp (one_upds (heap_alloc_new w0 (.cells u.cells.toArray 39)) (H0.out.ua.below hb1))
  have hlen : u.cells.length = 13 := Upd.len u
  clear hb1
  go_wp2_with (with_reducible refine wpList_load_row rfl 39 (.tmp 2) rfl w.heap.size rfl 39 u.cells.toArray (0, 0) _ H0.out.ub Try.underlying39 rfl hiu.out ?_)
  rw [fold13]
  refine (few7 [u] _ 1 1 1 _ HL1.out (by decide)).mono ?_
  rintro e w1 ⟨⟨bf, rfl, hbf⟩, B1⟩
  have H2 := hidp (H1.out.below B1)
  have HBF := hidp hbf
  clear B1 hbf
  clear hlen
  cases bf with
  | false =>
    go_wp2_with (go_at_call 8; go_must (
      refine (awake_any _).mono ?_
      rintro e w2 ⟨rfl, B2⟩
      have H3 := hidp (H2.out.below B2)
      clear B2))
    go_ret
    exact ⟨rfl, H3.out.bel⟩
  | true =>
    have hfew := (HBF.out rfl).2 u (by simp)
    have HN := hidp hfew.2
    clear hfew HBF
    have HX := hidp (show ∀ W, InAt w W none .nil 0 0 from fun W => .inl ⟨rfl, rfl, rfl, rfl⟩)
    have HG := hidp (fun W => iget_any w none .nil 0 0 p hp W (HX.out W))
    have hav : att0.val = .agg att0.cells.toArray := rfl
    rw [hpv, getA_nil] at HG
    simp only [hav] at HG
    have d0 := cellOf H2.out.pb 0 (v := .int .u32 (p.a : Int)) rfl
    have d1 := cellOf H2.out.pb 1 (v := .int .i64 p.l) rfl
    go_upto_region 5 with (first
      | (go_at_call 14; go_must (
         refine (HG.out _).mono ?_
         rintro e w2 ⟨rfl, B2⟩
         have H3 := hidp (H2.out.below B2)
         clear B2 d0 d1))
      | (with_reducible refine wpList_store_row rfl 37 (.tmp 6) (.tmp 22) rfl w2.heap.size att0.cells.toArray rfl rfl 37 _ (heap_alloc_new _ _) hi0.out rfl att0.all_one ?_
         rw [alloc_fill _ rfl]))
    have H4 := hidp (H3.out.below ((Below.refl w2.heap.size w2).alloc (Nat.le_refl _) (.cells att0.cells.toArray 37)))
    change Code.wp Try.prog _ _ _ (w2.alloc (.cells att0.cells.toArray 37))
    generalize w2.alloc (.cells att0.cells.toArray 37) = w3 at *
    have HU := hidp (update_any same45_any w none .nil 0 0 u w3 (HX.out w3) H4.out.ua HUA.out (H4.out.bel) (by have := HN.out.1; omega) (by have := HN.out.2; omega) (by decide) (by decide))
    unfold UpdE at HU
    rw [updA_nil, diffU_nil, huv] at HU
    have HR := hidp (fun W (h : u.at W) => upd16_nil u W h (by have := HN.out.1; omega) (by have := HN.out.2; omega))
    rw [huv] at HR
    go_wp2_with (first
      | (with_reducible refine wpList_load_row rfl 39 (.tmp 2) rfl w.heap.size rfl 39 u.cells.toArray (0, 0) _ H4.out.ub Try.underlying39 rfl hiu.out ?_)
      | (go_at_call 11; go_must (
         refine HU.out.mono ?_
         rintro e w4 ⟨⟨by_, ay, cy, rfl, hIY, hPY⟩, B4⟩
         have H5 := hidp (H4.out.below B4)
         have HY := hidp hIY
         clear B4 hIY hPY))
      | (with_reducible refine wpList_load_row rfl 39 (.tmp 2) rfl w.heap.size rfl 39 u.cells.toArray (0, 0) _ H5.out.ub Try.underlying39 rfl hiu.out ?_)
      | (go_at_call 15; go_must (
         refine (HR.out _ H5.out.ua).mono ?_
         rintro e w5 ⟨rfl, B5⟩
         have H6 := hidp (H5.out.below B5)
         have HY6 := hidp (HY.out.below B5)
         clear B5))
      | (go_at_call 12; with_reducible refine (len_any w none .nil 0 0 _ (HX.out _)).mono ?_
         rintro e w6 ⟨rfl, B6⟩
         have H7 := hidp (H6.out.below B6)
         have HY7 := hidp (HY6.out.below B6)
         clear B6)
      | (go_at_call 16; go_must (
         refine (keys_any w none .nil 0 0 _ (HX.out _) trivial (by show 0 ≤ 1000000; decide)).mono ?_
         rintro e w7 ⟨⟨vk, rfl, hk⟩, B7⟩
         have hk' : w7.ownsRow w6.heap.size 44 2 vk 0 [] := hk
         obtain ⟨ak, ck, rfl⟩ := ownsRow_slice hk'
         have H8 := hidp (H7.out.below B7)
         have HY8 := hidp (HY7.out.below B7)
         clear B7 hk hk'))
      | (go_at_call 17; go_must (
         refine (limit_any w none .nil 0 0 _ (HX.out _)).mono ?_
         rintro e w9 ⟨rfl, h9⟩; rw [h9]; clear h9))
      | (go_at_call 18; go_must (
         refine (table_any w none .nil 0 0 _ (HX.out _)).mono ?_
         rintro e w8 ⟨⟨bt, tt, rfl, ht, -⟩, B8⟩
         have HT := hidp ht
         have H9 := hidp (H8.out.below B8)
         have HY9 := hidp (HY8.out.below B8)
         clear B8 ht))
      | (go_at_call 19; go_must (
         refine (tlen_any w bt tt 0 _ HT.out).mono ?_
         rintro e w9 ⟨rfl, h9⟩; rw [h9]; clear h9))
      | (go_at_call 12; with_reducible refine (len_any w (some ⟨by_, 0, none⟩) _ 0 0 _ HY9.out).mono ?_
         rintro e w10 ⟨rfl, B10⟩
         have H10 := hidp (H9.out.below B10)
         clear B10)
      | (go_at_call 8; go_must (
         refine (awake_any _).mono ?_
         rintro e w11 ⟨rfl, B11⟩
         have H11 := hidp (H10.out.below B11)
         clear B11)))
    go_ret
    exact ⟨rfl, H11.out.bel⟩
end Go.Proofs.Ytnenpfalhbbadaa
