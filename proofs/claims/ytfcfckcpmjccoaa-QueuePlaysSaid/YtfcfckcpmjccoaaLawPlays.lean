/- The law QueuePlays answers true, whatever the acts and the number. -/
import Derived.Test.YtfcfckcpmjccoaaQR3
import Derived.Deep.RegionHeld3
import Derived.Deep.DeepCutAuto
import Derived.Deep.CutBlock
namespace Go.Proofs.Ytfcfckcpmjccoaa
open Go.RowKit

/-- acts of three cells each: a kind, bytes, a number -/
def QActs (w : World) (a : Option Addr) (len : Nat) (K N : Nat → Int) (A : Nat → Option Addr) (C : Nat → Nat) (B : Nat → List Int) : Prop :=
  0 < len → ∃ g o, a = some ⟨g, o, none⟩ ∧ ∀ i, i < len → w.cell? ⟨g, o + i * 3, none⟩ = some (.int .u8 (K i)) ∧ w.cell? ⟨g, o + i * 3 + 1, none⟩ = some (.slice (A i) (B i).length (C i)) ∧ w.cell? ⟨g, o + i * 3 + 2, none⟩ = some (.int .i64 (N i)) ∧ Src w (A i) (C i) (B i)

def SomeBool (e : Ending) (p : Prop) : Prop := ∃ x : Bool, e = .returned (.bool x) ∧ (x = true → p)
theorem few_any (a0 : Option Addr) (len cap : Nat) (K N : Nat → Int) (A : Nat → Option Addr) (C : Nat → Nat) (B : Nat → List Int) (w : World) (hA : QActs w a0 len K N A C B) :
    Calls Try.prog 14 #[.slice a0 len cap] w fun e w' => SomeBool e (len ≤ 40) ∧ w = w' := by
  have HA := hidp hA
  clear hA
  by_cases h40 : 40 < len
  · go_enter Try.func14, Try.ntmps14
    go_wp2
    go_ret
    exact ⟨⟨_, rfl, fun h => by first | omega | cases h⟩, rfl⟩
  · go_enter Try.func14, Try.ntmps14
    go_wp2
    go_loop [3] (fun i => ∃ j : Nat, j ≤ len ∧ i = .int .i64 j) (fun i => len - (intOf i).toNat)
    case atStart => exact ⟨0, by omega, rfl⟩
    case round =>
      obtain ⟨j, hj, rfl⟩ := hrel
      by_cases hlt : j < len
      · obtain ⟨g, o, rfl, hc⟩ := HA.out (by omega)
        obtain ⟨-, hB, -, -⟩ := hc j hlt
        clear hc
        have l1 : (j : Int) < (len : Int) := by omega
        generalize (B j).length = m at hB
        generalize A j = aj at hB
        generalize C j = cj at hB
        by_cases hm : 300 < m
        · go_wp2
          go_ret
          exact ⟨⟨_, rfl, fun h => by first | omega | cases h⟩, rfl⟩
        · go_wp2
          go_round
          case rel => exact ⟨j + 1, by omega, by go_num⟩
          case measure => simp [intOf]; omega
      · have l1 : ¬ (j : Int) < (len : Int) := by omega
        go_wp2
        go_ret
        exact ⟨⟨_, rfl, fun h => by first | omega | cases h⟩, rfl⟩

theorem put_any (base b : Nat) (v : Value) (xs : List Int) (most : Nat) (skip : Bool) (a : Option Addr) (c : Nat) (bs : List Int) (w : World) (h : QIs w 48 base b v xs most skip) (hS : Src w a c bs) (hbs : ∀ x ∈ bs, 0 ≤ x ∧ x ≤ 255) :
    Calls Try.prog 9 #[.pointer (some ⟨b, 0, none⟩), .slice a bs.length c] w fun e w' => e = .returned (.int .i64 (putN xs most bs)) ∧ (∃ v', QIs w' 48 base b v' (putX xs most skip bs) most (putS xs most skip bs)) ∧ Frame1 b w w' := by
  rcases Nat.eq_zero_or_pos (putN xs most bs) with h0 | h0
  · refine (put_zero base b v xs most skip a c bs w h h0).mono ?_
    rintro e w' ⟨rfl, hB⟩
    refine ⟨by rw [h0]; rfl, ⟨v, ?_⟩, Frame1.of_below hB⟩
    unfold putX putS
    rw [h0]
    simpa using h.below hB (Nat.le_refl _)
  · exact put_pos base b v xs most skip a c bs w h hS hbs _ rfl h0

theorem rline_yes (base b : Nat) (v : Value) (xs : List Int) (most : Nat) (skip : Bool) (n : Int) (i : Nat) (w : World) (h : QIs w 44 base b v xs most skip) (hi : nlAt xs = some i) (hin : i ≤ n.toNat) :
    Calls Try.prog 19 #[.pointer (some ⟨b, 0, none⟩), .int .i64 n] w fun e w' => ∃ v', e = .returned (.tuple #[v', .bool true, .bool false]) ∧ OwnMid w' w.heap.size 5 v' i ((xs.take i).map (Value.int .u8)) ∧ (∃ v'', QIs w' 44 base b v'' (xs.drop (i + 1)) most skip) ∧ Frame1 b w w' := by
  refine (rline_any base b v xs most skip n w h).mono ?_
  rintro e w' (⟨i', v', h1, h2, h3, h4⟩ | ⟨⟨i', h1, h2⟩ | ⟨h1, h2⟩, _⟩ | ⟨h1, _⟩)
  · rw [hi] at h1; cases h1; exact ⟨v', h3, h4⟩
  · rw [hi] at h1; cases h1; omega
  · rw [hi] at h1; cases h1
  · rw [hi] at h1; cases h1
theorem rline_long (base b : Nat) (v : Value) (xs : List Int) (most : Nat) (skip : Bool) (n : Int) (w : World) (h : QIs w 44 base b v xs most skip) (hi : (∃ i, nlAt xs = some i ∧ n.toNat < i) ∨ (nlAt xs = none ∧ n.toNat < xs.length)) :
    Calls Try.prog 19 #[.pointer (some ⟨b, 0, none⟩), .int .i64 n] w fun e w' => e = .returned (.tuple #[.slice none 0 0, .bool true, .bool true]) ∧ (∃ v'', QIs w' 44 base b v'' (passX xs) most (passS xs true)) ∧ Frame1 b w w' := by
  refine (rline_any base b v xs most skip n w h).mono ?_
  rintro e w' (⟨i', v', h1, h2, _⟩ | ⟨_, h3⟩ | ⟨h1, h2, _⟩)
  · rcases hi with ⟨i, h3, h4⟩ | ⟨h3, _⟩
    · rw [h1] at h3; cases h3; omega
    · rw [h1] at h3; cases h3
  · exact h3
  · rcases hi with ⟨i, h3, h4⟩ | ⟨h3, _⟩
    · rw [h1] at h3; cases h3
    · omega
theorem rline_none (base b : Nat) (v : Value) (xs : List Int) (most : Nat) (skip : Bool) (n : Int) (w : World) (h : QIs w 44 base b v xs most skip) (hi : nlAt xs = none) (hn : xs.length ≤ n.toNat) :
    Calls Try.prog 19 #[.pointer (some ⟨b, 0, none⟩), .int .i64 n] w fun e w' => e = .returned (.tuple #[.slice none 0 0, .bool false, .bool false]) ∧ w = w' := by
  refine (rline_any base b v xs most skip n w h).mono ?_
  rintro e w' (⟨i', v', h1, h2, _⟩ | ⟨⟨i', h1, h2⟩ | ⟨h1, h2⟩, _⟩ | ⟨_, _, h3⟩)
  · rw [hi] at h1; cases h1
  · rw [hi] at h1; cases h1
  · omega
  · exact h3

/-- what a round of the law carries: the program's queue holds xs', the document's xs -/
structure PQ (w : World) (q r : Nat) (xs' xs : List Int) (most : Nat) (skip' skip : Bool) (wr : World) : Prop where
  p : ∃ v, QIs wr 48 w.heap.size q v xs' most skip'
  d : ∃ v, QIs wr 44 w.heap.size r v xs most skip
  below : Below w.heap.size w wr
theorem PQ.later {w wr w' : World} {q r : Nat} {xs' xs : List Int} {most : Nat} {skip' skip : Bool} (R : PQ w q r xs' xs most skip' skip wr) (h : Below wr.heap.size wr w') : PQ w q r xs' xs most skip' skip w' :=
  ⟨R.p.imp fun _ h1 => h1.below h (Nat.le_refl _), R.d.imp fun _ h1 => h1.below h (Nat.le_refl _), R.below.trans (h.mono R.below.size)⟩
theorem PQ.drew {w wr : World} {q r : Nat} {xs' xs : List Int} {most : Nat} {skip' skip : Bool} (R : PQ w q r xs' xs most skip' skip wr) : PQ w q r xs' xs most skip' skip wr.drew := R.later (Below.refl _ _).drew
theorem PQ.prog {w wr w2 : World} {q r : Nat} {xs' xs ys : List Int} {most : Nat} {skip' skip s : Bool} (R : PQ w q r xs' xs most skip' skip wr) (h : ∃ v, QIs w2 48 w.heap.size q v ys most s) (F : Frame1 q wr w2) : PQ w q r ys xs most s skip w2 := by
  obtain ⟨v1, h1⟩ := R.p
  obtain ⟨v2, h2⟩ := R.d
  exact ⟨h, ⟨v2, h2.other h1 (by decide) F⟩, R.below.trans (F.below R.below.size h1.hb)⟩
theorem PQ.doc {w wr w2 : World} {q r : Nat} {xs' xs ys : List Int} {most : Nat} {skip' skip s : Bool} (R : PQ w q r xs' xs most skip' skip wr) (h : ∃ v, QIs w2 44 w.heap.size r v ys most s) (F : Frame1 r wr w2) : PQ w q r xs' ys most skip' s w2 := by
  obtain ⟨v1, h1⟩ := R.p
  obtain ⟨v2, h2⟩ := R.d
  exact ⟨⟨v1, h1.other h2 (by decide) F⟩, h, R.below.trans (F.below R.below.size h2.hb)⟩
theorem PQ.lt {w wr : World} {q r : Nat} {xs' xs : List Int} {most : Nat} {skip' skip : Bool} (R : PQ w q r xs' xs most skip' skip wr) : q < wr.heap.size ∧ r < wr.heap.size := by
  obtain ⟨v1, h1⟩ := R.p
  obtain ⟨v2, h2⟩ := R.d
  exact ⟨ltOf h1.blk, ltOf h2.blk⟩
theorem keepP {w W : World} {a : Addr} {v : Value} (h : Hid (w.cell? a = some v)) (hB : Below w.heap.size w W) : W.cell? a = some v ∧ Below w.heap.size w W :=
  ⟨below_cell hB (Nat.le_refl _) _ _ h.out, hB⟩

set_option maxRecDepth 100000 in
set_option maxHeartbeats 8000000 in
theorem plays_any (most : Int) (a0 : Option Addr) (len cap : Nat) (K N : Nat → Int) (A : Nat → Option Addr) (C : Nat → Nat) (B : Nat → List Int) (w : World) (hA : QActs w a0 len K N A C B)
    (hK : ∀ i, 0 ≤ K i ∧ K i ≤ 255) (hB : ∀ i, ∀ x ∈ B i, 0 ≤ x ∧ x ≤ 255) :
    Calls Try.prog 5 #[.int .i64 most, .slice a0 len cap] w fun e w' => e = .returned (.bool true) ∧ Below w.heap.size w w' := by
  have HA := hidp hA
  have HK := hidp hK
  have HBS := hidp hB
  clear hA hK hB
  go_enter Try.func5, Try.ntmps5
  go_wp2_with fail
  refine (few_any a0 len cap K N A C B w HA.out).mono ?_
  rintro e w1 ⟨⟨few, rfl, h40⟩, rfl⟩
  cases few
  · go_wp2_with (first | (go_at_call 7; refine (awake_any _).mono ?_; rintro e w6 ⟨rfl, B6⟩))
    go_ret
    exact ⟨rfl, B6⟩
  have h40 := h40 rfl
  go_wp2_with fail
  refine (new_any most w).mono ?_
  rintro e w1 ⟨q, rfl, Q1, hB1⟩
  have hq1 := ltOf Q1.blk
  have H1 := hidp Q1
  clear Q1
  go_wp2_with fail
  refine (rnew_any most _).mono ?_
  rintro e w2 ⟨r, rfl, R2, hB2⟩
  have R0 : PQ w q r [] [] (capQ most) false false w2 := ⟨⟨_, H1.out.below hB2 (Nat.le_refl _)⟩, ⟨_, R2.weaken hB1.size⟩, hB1.trans (hB2.mono hB1.size)⟩
  clear R2 hB2 hB1 H1 hq1
  generalize capQ most = M at R0
  go_wp2
  go_loopw [7] (fun i wr => ∃ (k : Nat) (xs : List Int) (skip : Bool), k ≤ len ∧ i = .int .i64 k ∧ PQ w q r xs xs M skip skip wr) (fun i _ => len - (intOf i).toNat)
  case atStart => exact ⟨0, [], false, by omega, rfl, R0⟩
  case round =>
    obtain ⟨k, xs, skip, hk, rfl, R⟩ := hrel
    have HR := hidp R
    by_cases hlt : k < len
    · obtain ⟨g, o, rfl, hc⟩ := HA.out (by omega)
      have hcK := below_cell R.below (Nat.le_refl _) _ _ (hc k hlt).1
      obtain ⟨-, hcB, hcN, hS⟩ := hc k hlt
      have hKk := HK.out k
      have hBk := hidp (HBS.out k)
      have l1 : (k : Int) < (len : Int) := by omega
      have HS := hidp hS
      have HcB := hidp hcB
      have HcN := hidp hcN
      clear hc hS hcB hcN R
      generalize B k = bs at HcB HS hBk
      generalize A k = ak at HcB HS
      generalize C k = ck at HcB HS
      obtain ⟨n, hn⟩ : ∃ n, n = N k := ⟨_, rfl⟩
      rw [← hn] at HcN
      clear hn
      go_upto_block 2 with (fail)
      go_cut [8, 9, 10, 11, 12, 13, 14, 34, 40, 57, 74] (fun ok _ _ _ _ _ _ _ _ _ _ wx => ok = .bool true ∧ ∃ xs' skip', PQ w q r xs' xs' M skip' skip' wx)
      case first =>
        rcases (by omega : K k % 4 = 0 ∨ K k % 4 = 1 ∨ K k % 4 = 2 ∨ K k % 4 = 3) with h4 | h4 | h4 | h4
        · go_wp2_with fail
          go_region_held3 (fun W => W.cell? ⟨g, o + k * 3 + 1, none⟩ = some (.slice ak bs.length ck) ∧ Below w.heap.size w W) (first | exact keepP HcB (by assumption) | exact keepP HcB HR.out.below.drew)
            (first
              | (go_at_call 9
                 obtain ⟨v1, q1⟩ := HR.out.drew.p
                 refine (put_any _ q v1 xs M skip ak ck bs _ q1 (HS.out.below HR.out.below.drew) hBk.out).mono ?_
                 rintro e w2 ⟨rfl, S2, F2⟩
                 have HP := hidp (HR.out.drew.prog S2 F2)
                 have B2 := HP.out.below
                 clear S2 F2 q1)
              | (go_at_call 16
                 obtain ⟨v2, q2⟩ := HP.out.d
                 refine (rput_any _ r v2 xs M skip ak ck bs _ q2 (HS.out.below B2) hBk.out).mono ?_
                 rintro e w3 ⟨rfl, R3, F3⟩
                 have HR3 := hidp (HP.out.doc R3 F3)
                 have B3 := HR3.out.below
                 clear R3 F3 q2))
          go_wp2
          go_meet
          exact ⟨rfl, _, _, HR3.out⟩
        · go_wp2_with fail
          go_region_held3 (fun W => W.cell? ⟨g, o + k * 3 + 2, none⟩ = some (.int .i64 n) ∧ Below w.heap.size w W) (first | exact keepP HcN (by assumption) | exact keepP HcN HR.out.below.drew)
            (first
              | (go_at_call 12
                 obtain ⟨v1, q1⟩ := HR.out.drew.p
                 refine (take_any _ q v1 xs M skip n _ q1).mono ?_
                 rintro e w2 ⟨x1, rfl, O1, S2, F2⟩
                 have HP := hidp (HR.out.drew.prog S2 F2)
                 have HO := hidp (O1.weaken HR.out.drew.below.size)
                 have B2 := HP.out.below
                 obtain ⟨y1, z1, rfl⟩ := O1.slice
                 clear S2 F2 q1 O1)
              | (go_at_call 18
                 obtain ⟨v2, q2⟩ := HP.out.d
                 refine (rtake_any _ r v2 xs M skip n _ q2).mono ?_
                 rintro e w3 ⟨x2, rfl, O2, R3, F3⟩
                 have HR3 := hidp (HP.out.doc R3 F3)
                 have HO3 := hidp (And.intro (HO.out.of_heap (w' := w3) fun gg hg => by
                   obtain ⟨_, cc, hcc⟩ := HO.out.block gg hg
                   exact F3.block gg (ltOf hcc) (by rintro rfl; rw [q2.blk] at hcc; cases hcc)) O2)
                 have B3 := HR3.out.below
                 obtain ⟨y2, z2, rfl⟩ := O2.slice
                 clear R3 F3 q2 O2)
              | (go_at_call 17
                 refine (same_yes _ _ _ _ _ _ _ _ HO3.out.1 HO3.out.2).mono ?_
                 rintro e w4 ⟨rfl, rfl⟩))
          go_wp2
          go_meet
          exact ⟨rfl, _, _, HR3.out⟩
        · have d2 := (keepP HcN HR.out.below).1
          obtain ⟨v1, q1⟩ := HR.out.p
          have hcs : (∃ i, nlAt xs = some i ∧ i ≤ n.toNat) ∨ ((∃ i, nlAt xs = some i ∧ n.toNat < i) ∨ (nlAt xs = none ∧ n.toNat < xs.length)) ∨ (nlAt xs = none ∧ xs.length ≤ n.toNat) := by
            cases hi : nlAt xs with
            | none => rcases Nat.lt_or_ge n.toNat xs.length with h | h
                      · exact .inr (.inl (.inr ⟨rfl, h⟩))
                      · exact .inr (.inr ⟨rfl, h⟩)
            | some i => rcases Nat.lt_or_ge n.toNat i with h | h
                        · exact .inr (.inl (.inl ⟨i, rfl, h⟩))
                        · exact .inl ⟨i, rfl, h⟩
          rcases hcs with ⟨i, hi, hin⟩ | hlong | ⟨hi, hin⟩
          · have HI := hidp (And.intro hi hin)
            clear hi hin
            go_wp2_with fail
            refine (line_yes _ q v1 xs M skip n i _ q1 HI.out.1 HI.out.2).mono ?_
            rintro e w2 ⟨x1, rfl, O1, S2, F2⟩
            have HP := hidp (HR.out.prog S2 F2)
            have HO := hidp (O1.weaken HR.out.below.size)
            obtain ⟨y1, z1, rfl⟩ := O1.slice
            clear S2 F2 q1 O1 d2
            have d2 := (keepP HcN HP.out.below).1
            obtain ⟨v2, q2⟩ := HP.out.d
            go_wp2_with fail
            refine (rline_yes _ r v2 xs M skip n i _ q2 HI.out.1 HI.out.2).mono ?_
            rintro e w3 ⟨x2, rfl, O2, R3, F3⟩
            have HR3 := hidp (HP.out.doc R3 F3)
            have HO3 := hidp (And.intro (HO.out.of_heap (w' := w3) fun gg hg => by
              obtain ⟨_, cc, hcc⟩ := HO.out.block gg hg
              exact F3.block gg (ltOf hcc) (by rintro rfl; rw [q2.blk] at hcc; cases hcc)) O2)
            obtain ⟨y2, z2, rfl⟩ := O2.slice
            clear R3 F3 q2 O2 d2
            go_wp2_with fail
            refine (same_yes _ _ _ _ _ _ _ _ HO3.out.1 HO3.out.2).mono ?_
            rintro e w4 ⟨rfl, rfl⟩
            go_wp2
            go_meet
            exact ⟨rfl, _, _, HR3.out⟩
          · have HI := hidp hlong
            clear hlong
            go_wp2_with fail
            refine (line_long _ q v1 xs M skip n _ q1 HI.out).mono ?_
            rintro e w2 ⟨rfl, S2, F2⟩
            have HP := hidp (HR.out.prog S2 F2)
            clear S2 F2 q1 d2
            have d2 := (keepP HcN HP.out.below).1
            obtain ⟨v2, q2⟩ := HP.out.d
            go_wp2_with fail
            refine (rline_long _ r v2 xs M skip n _ q2 HI.out).mono ?_
            rintro e w3 ⟨rfl, R3, F3⟩
            have HR3 := hidp (HP.out.doc R3 F3)
            clear R3 F3 q2 d2
            go_wp2_with fail
            refine (same_yes 0 0 _ _ _ _ [] _ (OwnMid.nil _ _ _) (OwnMid.nil _ _ _)).mono ?_
            rintro e w4 ⟨rfl, rfl⟩
            go_wp2
            go_meet
            exact ⟨rfl, _, _, HR3.out⟩
          · have HI := hidp (And.intro hi hin)
            clear hi hin
            go_wp2_with fail
            refine (line_none _ q v1 xs M skip n _ q1 HI.out.1 HI.out.2).mono ?_
            rintro e w2 ⟨rfl, rfl⟩
            obtain ⟨v2, q2⟩ := HR.out.d
            go_wp2_with fail
            refine (rline_none _ r v2 xs M skip n _ q2 HI.out.1 HI.out.2).mono ?_
            rintro e w3 ⟨rfl, rfl⟩
            go_wp2_with fail
            refine (same_yes 0 0 _ _ _ _ [] _ (OwnMid.nil _ _ _) (OwnMid.nil _ _ _)).mono ?_
            rintro e w4 ⟨rfl, rfl⟩
            go_wp2
            go_meet
            exact ⟨rfl, _, _, HR.out⟩
        · obtain ⟨v1, q1⟩ := HR.out.p
          go_wp2_with fail
          refine (clear_any _ q v1 xs M skip _ q1).mono ?_
          rintro e w2 ⟨rfl, S2, F2⟩
          have HP := hidp (HR.out.prog ⟨_, S2⟩ F2)
          clear S2 F2 q1
          obtain ⟨v2, q2⟩ := HP.out.d
          go_wp2_with fail
          refine (rclear_any _ r v2 xs M skip _ q2).mono ?_
          rintro e w3 ⟨rfl, R3, F3⟩
          have HR3 := hidp (HP.out.doc ⟨_, R3⟩ F3)
          clear R3 F3 q2
          go_wp2
          go_meet
          exact ⟨rfl, _, _, HR3.out⟩
      case rest =>
        obtain ⟨rfl, xs', skip', R'⟩ := hcut
        clear hcK HR
        obtain ⟨v1, q1⟩ := R'.p
        obtain ⟨v2, q2⟩ := R'.d
        obtain ⟨x2, c2, rfl⟩ := q2.own.slice
        have hl := q2.len
        have hm := q2.max
        have hw : IntKind.i64.wrap ((M : Int) - (xs'.length : Int)) = (M : Int) - (xs'.length : Int) := IntWalk.i64_in _ (by omega)
        have HR := hidp R'
        have HQ1 := hidp q1
        have HQ2 := hidp q2
        have K0 : Hid (∀ W : World, Below wc.heap.size wc W → W.cell? ⟨r, 0, none⟩ = some (.slice x2 xs'.length c2) ∧ W.cell? ⟨r, 1, none⟩ = some (.int .i64 M) ∧ Below wc.heap.size wc W) :=
          fun W hB => ⟨(q2.cells hB).1, (q2.cells hB).2.1, hB⟩
        clear R' q1 q2
        go_wp2_with fail
        go_region_held3 (fun W => W.cell? ⟨r, 0, none⟩ = some (.slice x2 xs'.length c2) ∧ W.cell? ⟨r, 1, none⟩ = some (.int .i64 M) ∧ Below wc.heap.size wc W) (first | exact K0.out _ (by assumption) | exact K0.out _ (Below.refl _ _).drew)
          (first
            | (go_at_call 13
               refine (bytes_any _ q v1 xs' M skip' _ HQ1.out.drew).mono ?_
               rintro e w2 ⟨y1, rfl, O1, B1⟩
               have B2 : Below wc.heap.size wc w2 := (Below.refl _ _).drew.trans B1
               have HO := hidp O1
               obtain ⟨a1, c1, rfl⟩ := O1.slice
               clear O1 B1)
            | (go_at_call 17
               refine (same_yes _ _ _ _ _ _ _ _ HO.out (HQ2.out.own.below B2 (Nat.le_refl _))).mono ?_
               rintro e w3 ⟨rfl, rfl⟩)
            | (go_at_call 11
               refine (len_any _ q v1 xs' M skip' _ (HQ1.out.below B2 (Nat.le_refl _))).mono ?_
               rintro e w4 ⟨rfl, rfl⟩)
            | (go_at_call 22
               refine (room_any _ q v1 xs' M skip' _ (HQ1.out.below B2 (Nat.le_refl _))).mono ?_
               rintro e w5 ⟨rfl, B5⟩
               have B6 := B2.trans (B5.mono B2.size)))
        go_wp2
        go_roundw
        case rel => exact ⟨k + 1, xs', skip', by omega, by go_num, HR.out.later B6⟩
        case measure => simp [intOf]; omega
    · have l1 : ¬ (k : Int) < (len : Int) := by omega
      clear R
      go_wp2_with (first | (go_at_call 7; refine (awake_any _).mono ?_; rintro e w6 ⟨rfl, B6⟩))
      go_ret
      exact ⟨rfl, HR.out.below.trans (B6.mono HR.out.below.size)⟩
end Go.Proofs.Ytfcfckcpmjccoaa
