/- What the methods of version.Store[string] do, over a store as plain data. -/
import Derived.Test.YtacnphokgggmdaaRows
import Derived.Test.YtacnphokgggmdaaSt
import Derived.StillTailTactics
import Derived.Outline
import Derived.Deep.QuietTactic
namespace Go.Proofs.Ytacnphokgggmdaa.S
open Go.RowKit

/-- Block b is a store over the map mb that holds s. -/
structure StoreIs (w : World) (b mb : Nat) (s : St) : Prop where
  blk : w.heap[b]? = some (.cells #[.int .i64 s.head, .map (some mb)] 61 (0, 0))
  map : MapIs .i64 w mb s.f s.n

theorem underK : Try.prog.underlying 58 = some (.struct (Try.prog.fieldsOf 58)) := by kernel_rfl
theorem field0 (v p : Value) (w : World) : (Instr.field 58 (.agg #[v, p]) 0).run Try.prog w = .ok v w := by kernel_rfl
theorem field1 (v p : Value) (w : World) : (Instr.field 58 (.agg #[v, p]) 1).run Try.prog w = .ok p w := by kernel_rfl
theorem zeroK (w : World) : (zeroValue 58).run Try.prog w = .ok (.agg #[.string ByteArray.empty, .int .i64 0]) w := by kernel_rfl

theorem mapNe (r : Option Nat) (w : World) : (binOp .neq 59 (.map r) (.map none)).run Try.prog w = .ok (.bool (!r.isNone)) w := run_neq_map_nil w 59 _ _ r Try.underlying59

theorem made_yes (b mb : Nat) (s : St) (w : World) (h : StoreIs w b mb s) : Calls Try.prog 31 #[.pointer (some ⟨b, 0, none⟩)] w fun e w' => e = .returned (.bool true) ∧ w = w' := by
  have c0 := cellOf h.blk 0 (v := .int .i64 s.head) rfl
  have c1 := cellOf h.blk 1 (v := .map (some mb)) rfl
  have hne := mapNe (some mb)
  clear h
  go_enter Try.func31, Try.ntmps31
  go_wp2
  go_ret
  exact ⟨rfl, rfl⟩
theorem made_nil (w : World) : Calls Try.prog 31 #[.pointer none] w fun e w' => e = .returned (.bool false) ∧ w = w' := by
  go_enter Try.func31, Try.ntmps31
  go_wp2
  go_ret
  exact ⟨rfl, rfl⟩
theorem made_empty (b : Nat) (w : World) (h : w.heap[b]? = some (.cells #[.int .i64 0, .map none] 61 (0, 0))) : Calls Try.prog 31 #[.pointer (some ⟨b, 0, none⟩)] w fun e w' => e = .returned (.bool false) ∧ w = w' := by
  have c0 := cellOf h 0 (v := .int .i64 0) rfl
  have c1 := cellOf h 1 (v := .map none) rfl
  have hne := mapNe none
  clear h
  go_enter Try.func31, Try.ntmps31
  go_wp2
  go_ret
  exact ⟨rfl, rfl⟩

theorem getD_kept (o : Option (Value × Int)) : (o.map kept).getD (.agg #[.string ByteArray.empty, .int .i64 0]) = .agg #[(o.map (·.1)).getD (.string ByteArray.empty), .int .i64 ((o.map (·.2)).getD 0)] := by
  cases o <;> rfl

theorem pins_yes (b mb : Nat) (s : St) (k : Int) (w : World) (h : StoreIs w b mb s) : Calls Try.prog 33 #[.pointer (some ⟨b, 0, none⟩), .int .i64 k] w fun e w' => e = .returned (.int .i64 (s.pins k)) ∧ w = w' := by
  have c1 := cellOf h.blk 1 (v := .map (some mb)) rfl
  have hl := h.map.look (t := 59) Try.underlying59 Try.underlying3 (zeroK w) k false
  rw [show s.f k = (s.g k).map kept from rfl, getD_kept, if_neg (by decide)] at hl
  have hf1 := field1
  have H := hidp h
  clear h
  go_enter Try.func33, Try.ntmps33
  go_wp2_with fail
  refine (made_yes b mb s _ H.out).mono ?_
  rintro e w' ⟨rfl, rfl⟩
  go_wp2
  go_ret
  exact ⟨rfl, rfl⟩
theorem live_yes (b mb : Nat) (s : St) (w : World) (h : StoreIs w b mb s) : Calls Try.prog 29 #[.pointer (some ⟨b, 0, none⟩)] w fun e w' => e = .returned (.int .i64 s.n) ∧ w = w' := by
  have c1 := cellOf h.blk 1 (v := .map (some mb)) rfl
  have hl := fun ty => h.map.len (t := 59) Try.underlying59 ty
  have H := hidp h
  clear h
  go_enter Try.func29, Try.ntmps29
  go_wp2_with fail
  refine (made_yes b mb s _ H.out).mono ?_
  rintro e w' ⟨rfl, rfl⟩
  go_wp2
  go_ret
  exact ⟨rfl, rfl⟩

theorem getD_at (o : Option (Value × Int)) : (o.map kept).getD (.agg #[.string ByteArray.empty, .int .i64 0]) = .agg #[(o.map (·.1)).getD (.string ByteArray.empty), .int .i64 ((o.map (·.2)).getD 0)] := getD_kept o

theorem at_yes (b mb : Nat) (s : St) (k : Int) (w : World) (h : StoreIs w b mb s) (hv : ∃ n, s.val (.string ByteArray.empty) k = Value.string n) : Calls Try.prog 27 #[.pointer (some ⟨b, 0, none⟩), .int .i64 k] w fun e w' => e = .returned (.tuple #[s.val (.string ByteArray.empty) k, .bool (s.g k).isSome]) ∧ Below w.heap.size w w' := by
  have c1 := cellOf h.blk 1 (v := .map (some mb)) rfl
  have hl := h.map.look (t := 59) Try.underlying59 Try.underlying3 (zeroK w) k true
  rw [show s.f k = (s.g k).map kept from rfl, getD_kept, if_pos rfl, Option.isSome_map] at hl
  rw [show ((s.g k).map (·.1)).getD (.string ByteArray.empty) = s.val (.string ByteArray.empty) k from rfl] at hl
  generalize s.val (.string ByteArray.empty) k = v at *
  generalize (s.g k).isSome = ok at *
  generalize ((s.g k).map (·.2)).getD 0 = p at *
  obtain ⟨n, rfl⟩ := hv
  have hf0 := field0
  have H := hidp h
  clear h
  go_enter Try.func27, Try.ntmps27
  go_wp2_with fail
  refine (made_yes b mb s _ H.out).mono ?_
  rintro e w' ⟨rfl, rfl⟩
  go_wp2
  go_ret2
  refine ⟨rfl, by go_grown⟩

theorem StoreIs.put {b mb : Nat} {s : St} {w w' : World} (h : StoreIs w b mb s) (k : Int) (p : Value × Int) (hm : MapIs .i64 w' mb (upd s.f k (kept p)) (if (s.f k).isSome then s.n else s.n + 1)) (ho : OnlyMap w mb w') (hne : b ≠ mb) : StoreIs w' b mb (s.put k p) :=
  ⟨by rw [ho.block b hne]; exact h.blk, by rw [St.f_some] at hm; exact hm.congr (St.f_put s k p)⟩
theorem StoreIs.drop {b mb : Nat} {s : St} {w w' : World} (h : StoreIs w b mb s) (k : Int) (hm : MapIs .i64 w' mb (del s.f k) (if (s.f k).isSome then s.n - 1 else s.n)) (ho : OnlyMap w mb w') (hne : b ≠ mb) : StoreIs w' b mb (s.drop k) :=
  ⟨by rw [ho.block b hne]; exact h.blk, by rw [St.f_some] at hm; exact hm.congr (St.f_drop s k)⟩
theorem StoreIs.ne {b mb : Nat} {s : St} {w : World} (h : StoreIs w b mb s) : b ≠ mb := by
  rintro rfl
  obtain ⟨es, clock, hb, _⟩ := h.map
  rw [h.blk] at hb; cases hb

theorem tidy_yes (b mb : Nat) (s : St) (k : Int) (w : World) (h : StoreIs w b mb s) : Calls Try.prog 32 #[.pointer (some ⟨b, 0, none⟩), .int .i64 k] w fun e w' => e = .returned (.tuple #[]) ∧ StoreIs w' b mb (s.tidy k) ∧ OnlyMap w mb w' := by
  have c0 := cellOf h.blk 0 (v := .int .i64 s.head) rfl
  have c1 := cellOf h.blk 1 (v := .map (some mb)) rfl
  have hl := h.map.look (t := 59) Try.underlying59 Try.underlying3 (zeroK w) k false
  rw [show s.f k = (s.g k).map kept from rfl, getD_kept, if_neg (by decide)] at hl
  have hf1 := field1
  have hp : Hid (s.pins k = ((s.g k).map (·.2)).getD 0) := rfl
  have H := hidp h
  have hsame : OnlyMap w mb w := ⟨rfl, rfl, rfl, rfl, fun _ _ => rfl⟩
  clear h
  by_cases hk : k = s.head
  · have ht : Hid (s.tidy k = s) := by show _ = _; unfold St.tidy; rw [if_neg (by simp [hk])]
    have hd : (k != s.head) = false := by simp [hk]
    clear hk
    go_enter Try.func32, Try.ntmps32
    go_wp2
    go_end0
    rw [ht.out]
    exact ⟨rfl, H.out, hsame⟩
  · have hd : (k != s.head) = true := by simpa using hk
    by_cases h0 : s.pins k = 0
    · have ht : Hid (s.tidy k = s.drop k) := by show _ = _; unfold St.tidy; rw [if_pos ⟨hk, h0⟩]
      have hq : (((s.g k).map (·.2)).getD 0 == 0) = true := by rw [← hp.out]; simpa using h0
      clear hk h0
      generalize ((s.g k).map (·.2)).getD 0 = p at *
      go_enter Try.func32, Try.ntmps32
      go_wp2_with (at_delete; refine wpList_delete_is rfl _ _ 59 3 rfl Try.underlying59 Try.underlying3 rfl H.out.map k rfl ?_; intro w1 hm1 ho1)
      go_end0
      rw [ht.out]
      exact ⟨rfl, H.out.drop k hm1 ho1 H.out.ne, ho1⟩
    · have ht : Hid (s.tidy k = s) := by show _ = _; unfold St.tidy; rw [if_neg (by simp [h0])]
      have hq : (((s.g k).map (·.2)).getD 0 == 0) = false := by rw [← hp.out]; simpa using h0
      clear hk h0
      generalize ((s.g k).map (·.2)).getD 0 = p at *
      go_enter Try.func32, Try.ntmps32
      go_wp2
      go_end0
      rw [ht.out]
      exact ⟨rfl, H.out, hsame⟩

theorem StoreIs.drew {b mb : Nat} {s : St} {w : World} (h : StoreIs w b mb s) : StoreIs w.drew b mb s := ⟨h.blk, h.map⟩
theorem StoreIs.setHead {b mb : Nat} {s : St} {w : World} (h : StoreIs w b mb s) (n : Int) : StoreIs (w.setCell ⟨b, 0, none⟩ (.int .i64 n)) b mb { s with head := n } :=
  ⟨by rw [heap_setCell_same h.blk]; rfl, h.map.setCell _ _ (Ne.symm h.ne)⟩

theorem commit_yes (b mb : Nat) (s : St) (x : Value) (w : World) (h : StoreIs w b mb s) (h0 : 0 ≤ s.head) (h1 : s.head ≤ 1000000000) (hv : ∃ n, x = Value.string n) :
    Calls Try.prog 26 #[.pointer (some ⟨b, 0, none⟩), x] w fun e w' => e = .returned (.int .i64 (s.head + 1)) ∧ StoreIs w' b mb (s.commit x) ∧ Frame2 b mb w w' := by
  have c0 := cellOf h.blk 0 (v := .int .i64 s.head) rfl
  have f0 := frozenOf h.blk 0
  have H := hidp h
  have hs := h.setHead (s.head + 1)
  have d0 := cellOf hs.blk 0 (v := .int .i64 (s.head + 1)) rfl
  have d1 := cellOf hs.blk 1 (v := .map (some mb)) rfl
  have HS := hidp hs
  clear h hs
  obtain ⟨n, rfl⟩ := hv
  go_enter Try.func26, Try.ntmps26
  go_wp2_with fail
  refine (made_yes b mb s _ H.out).mono ?_
  rintro e w' ⟨rfl, rfl⟩
  go_wp2
  refine region_tail 10 (by kernel_rfl) (by kernel_rfl) ?_
  intro D hD
  have HD : StoreIs D b mb { s with head := s.head + 1 } := by rw [← hD]; exact HS.out.drew
  have hF : Frame2 b mb w D := by rw [← hD]; exact (Frame2.setCell w 0 _).trans (Frame2.of_below ((Below.refl _ _).drew))
  clear hD HS d0 d1 c0 f0
  have d0 := cellOf HD.blk 0 (v := .int .i64 (s.head + 1)) rfl
  have d1 := cellOf HD.blk 1 (v := .map (some mb)) rfl
  have HD' := hidp HD
  clear HD
  simp only [List.take_succ_cons, List.take_zero, List.drop_succ_cons, List.drop_zero]
  repeat still_step
  refine wpStill_nil ?_
  refine wpList_update_is rfl _ _ _ 59 rfl Try.underlying59 Try.underlying3 rfl HD'.out.map (s.head + 1) rfl (kept (Value.string n, 0)) rfl ?_
  intro w1 hm1 ho1
  have S1 := HD'.out.put (s.head + 1) (Value.string n, 0) hm1 ho1 HD'.out.ne
  have hF1 : Frame2 b mb w w1 := hF.trans (Frame2.map ho1)
  clear hm1 ho1 HD' hF d0 d1
  have HS1 := hidp S1
  clear S1
  go_wp2_with fail
  refine (tidy_yes b mb _ s.head _ HS1.out).mono ?_
  rintro e w2 ⟨rfl, S2, ho2⟩
  have c0 := cellOf S2.blk 0 rfl
  rw [show (St.tidy _ s.head).head = s.head + 1 by unfold St.tidy; split <;> rfl] at c0
  have HS2 := hidp S2
  clear S2
  go_wp2
  go_ret
  exact ⟨rfl, HS2.out, hF1.trans (Frame2.map ho2)⟩

theorem StoreIs.alloc {b mb : Nat} {s : St} {w : World} (h : StoreIs w b mb s) (o : Obj) : StoreIs (w.alloc o) b mb s := ⟨heap_alloc_at h.blk _, h.map.alloc _⟩
theorem StoreIs.below {b mb B : Nat} {s : St} {w w' : World} (h : StoreIs w b mb s) (hb : Below B w w') (hB : w.heap.size ≤ B) : StoreIs w' b mb s :=
  ⟨heap_below hb h.blk (Nat.lt_of_lt_of_le (ltOf h.blk) hB), h.map.below hb (Nat.lt_of_lt_of_le h.map.lt hB)⟩
theorem keepPin {b mb : Nat} {s : St} {w W : World} {n : ByteArray} {p : Int} (h : StoreIs W b mb s) (hF : Frame2 b mb w W) (hn : Hid (s.val (.string ByteArray.empty) s.head = Value.string n)) (hp : Hid (p = s.pins s.head)) :
    W.cell? ⟨b, 0, none⟩ = some (.int .i64 s.head) ∧ W.cell? ⟨b, 1, none⟩ = some (.map (some mb)) ∧ (Instr.lookup 59 (.map (some mb)) (.int .i64 s.head) false).run Try.prog W = .ok (.agg #[Value.string n, .int .i64 p]) W ∧ StoreIs W b mb s ∧ Frame2 b mb w W := by
  have hl := h.map.look (t := 59) Try.underlying59 Try.underlying3 (zeroK W) s.head false
  rw [show s.f s.head = (s.g s.head).map kept from rfl, getD_kept, if_neg (by decide)] at hl
  rw [show ((s.g s.head).map (·.1)).getD (.string ByteArray.empty) = s.val (.string ByteArray.empty) s.head from rfl, hn.out, show ((s.g s.head).map (·.2)).getD 0 = s.pins s.head from rfl, ← hp.out] at hl
  exact ⟨cellOf h.blk 0 rfl, cellOf h.blk 1 rfl, hl, h, hF⟩
theorem pin_yes (b mb : Nat) (s : St) (w : World) (h : StoreIs w b mb s) (hp0 : 0 ≤ s.pins s.head) (hp1 : s.pins s.head ≤ 1000000000) (hv : ∃ n, s.val (.string ByteArray.empty) s.head = Value.string n) :
    Calls Try.prog 25 #[.pointer (some ⟨b, 0, none⟩)] w fun e w' => e = .returned (.int .i64 s.head) ∧ StoreIs w' b mb (s.pin (.string ByteArray.empty)) ∧ Frame2 b mb w w' := by
  have H := hidp h
  clear h
  obtain ⟨n, hn⟩ := hv
  have HN := hidp hn
  have hpin : Hid (s.pin (.string ByteArray.empty) = s.put s.head (Value.string n, s.pins s.head + 1)) := by show _ = _; unfold St.pin; rw [hn]
  obtain ⟨p, hp⟩ : ∃ p, p = s.pins s.head := ⟨_, rfl⟩
  have HP := hidp hp
  rw [← hp] at hp0 hp1
  clear hp hn
  go_enter Try.func25, Try.ntmps25
  go_wp2_with fail
  refine (made_yes b mb s _ H.out).mono ?_
  rintro e w' ⟨rfl, rfl⟩
  go_wp2
  go_region_held3 (fun W => W.cell? ⟨b, 0, none⟩ = some (.int .i64 s.head) ∧ W.cell? ⟨b, 1, none⟩ = some (.map (some mb)) ∧ (Instr.lookup 59 (.map (some mb)) (.int .i64 s.head) false).run Try.prog W = .ok (.agg #[Value.string n, .int .i64 p]) W ∧ StoreIs W b mb s ∧ Frame2 b mb w W)
    (first | exact keepPin H.out.drew (Frame2.of_below ((Below.refl _ _).drew)) HN HP | exact keepPin (H.out.drew.alloc _) (Frame2.of_below (((Below.refl _ _).drew).alloc (Nat.le_refl _) _)) HN HP) (fail)
  all_goals
    go_wp2
    refine region_tail 9 (by kernel_rfl) (by kernel_rfl) ?_
    intro D2 hD2
    have HD : StoreIs D2 b mb s := by rw [← hD2]; exact (H.out.alloc _).drew.drew
    have hF : Frame2 b mb w D2 := by rw [← hD2]; exact Frame2.of_below ((((Below.refl _ _).alloc (Nat.le_refl _) _).drew).drew)
    have hx : D2.heap[w.heap.size]? = some (.cells #[Value.string n, .int .i64 (p + 1)] 58) := by rw [← hD2]; exact heap_alloc_new w _
    clear hD2
    have c0 := cellOf HD.blk 0 (v := .int .i64 s.head) rfl
    have c1 := cellOf HD.blk 1 (v := .map (some mb)) rfl
    have x0 := cellOf hx 0 (v := Value.string n) rfl
    have x1 := cellOf hx 1 (v := .int .i64 (p + 1)) rfl
    have HD' := hidp HD
    clear HD hx
    simp only [List.take_succ_cons, List.take_zero, List.drop_succ_cons, List.drop_zero]
    repeat still_step
    refine wpStill_nil ?_
    refine wpList_update_is rfl _ _ _ 59 rfl Try.underlying59 Try.underlying3 rfl HD'.out.map s.head rfl (kept (Value.string n, p + 1)) rfl ?_
    intro w1 hm1 ho1
    have S1 := HD'.out.put s.head (Value.string n, p + 1) hm1 ho1 HD'.out.ne
    have hF1 : Frame2 b mb w w1 := hF.trans (Frame2.map ho1)
    clear hm1 ho1 HD' hF c0 c1 x0 x1
    have c0 := cellOf S1.blk 0 (v := .int .i64 s.head) rfl
    have HS1 := hidp S1
    clear S1
    go_wp2
    go_ret
    rw [hpin.out, ← HP.out]
    exact ⟨rfl, HS1.out, hF1⟩

theorem release_no (b mb : Nat) (s : St) (k : Int) (w : World) (h : StoreIs w b mb s) (h0 : s.pins k = 0) :
    Calls Try.prog 28 #[.pointer (some ⟨b, 0, none⟩), .int .i64 k] w fun e w' => e = .returned (.bool false) ∧ w = w' := by
  have H := hidp h
  clear h
  go_enter Try.func28, Try.ntmps28
  go_wp2_with fail
  refine (pins_yes b mb s k _ H.out).mono ?_
  rintro e w' ⟨rfl, rfl⟩
  rw [h0]
  go_wp2
  go_ret
  exact ⟨rfl, rfl⟩

theorem release_yes (b mb : Nat) (s : St) (k : Int) (w : World) (h : StoreIs w b mb s) (hp0 : 0 < s.pins k) (hp1 : s.pins k ≤ 1000000000) (hv : ∃ n, s.val (.string ByteArray.empty) k = Value.string n) :
    Calls Try.prog 28 #[.pointer (some ⟨b, 0, none⟩), .int .i64 k] w fun e w' => e = .returned (.bool true) ∧ StoreIs w' b mb (s.release (.string ByteArray.empty) k) ∧ Frame2 b mb w w' := by
  obtain ⟨n, hn⟩ := hv
  have hrel : Hid (s.release (.string ByteArray.empty) k = (s.put k (Value.string n, s.pins k - 1)).tidy k) := by show _ = _; unfold St.release; rw [if_neg (by omega), hn]
  have c1 := cellOf h.blk 1 (v := .map (some mb)) rfl
  have hl := h.map.look (t := 59) Try.underlying59 Try.underlying3 (zeroK w) k false
  rw [show s.f k = (s.g k).map kept from rfl, getD_kept, if_neg (by decide)] at hl
  rw [show ((s.g k).map (·.1)).getD (.string ByteArray.empty) = s.val (.string ByteArray.empty) k from rfl, hn, show ((s.g k).map (·.2)).getD 0 = s.pins k from rfl] at hl
  have H := hidp h
  have HN := hidp hn
  obtain ⟨p, hp⟩ : ∃ p, p = s.pins k := ⟨_, rfl⟩
  rw [← hp] at hp0 hp1 hl
  have HP := hidp hp
  clear h hn hp
  go_enter Try.func28, Try.ntmps28
  go_wp2_with fail
  refine (pins_yes b mb s k _ H.out).mono ?_
  rintro e w' ⟨rfl, rfl⟩
  rw [← HP.out]
  have hne : (p == 0) = false := by simp; omega
  go_wp2
  refine region_tail 6 (by kernel_rfl) (by kernel_rfl) ?_
  intro D2 hD2
  have HD : StoreIs D2 b mb s := by rw [← hD2]; exact (H.out.alloc _).drew
  have hF : Frame2 b mb w D2 := by rw [← hD2]; exact Frame2.of_below (((Below.refl _ _).alloc (Nat.le_refl _) _).drew)
  have hx : D2.heap[w.heap.size]? = some (.cells #[Value.string n, .int .i64 (p - 1)] 58) := by rw [← hD2]; exact heap_alloc_new w _
  clear hD2 c1 hl
  have c1 := cellOf HD.blk 1 (v := .map (some mb)) rfl
  have x0 := cellOf hx 0 (v := Value.string n) rfl
  have x1 := cellOf hx 1 (v := .int .i64 (p - 1)) rfl
  have HD' := hidp HD
  clear HD hx
  simp only [List.take_succ_cons, List.take_zero, List.drop_succ_cons, List.drop_zero]
  repeat still_step
  refine wpStill_nil ?_
  refine wpList_update_is rfl _ _ _ 59 rfl Try.underlying59 Try.underlying3 rfl HD'.out.map k rfl (kept (Value.string n, p - 1)) rfl ?_
  intro w1 hm1 ho1
  have S1 := HD'.out.put k (Value.string n, p - 1) hm1 ho1 HD'.out.ne
  have hF1 : Frame2 b mb w w1 := hF.trans (Frame2.map ho1)
  clear hm1 ho1 HD' hF c1 x0 x1
  have HS1 := hidp S1
  clear S1
  go_wp2_with fail
  refine (tidy_yes b mb _ k _ HS1.out).mono ?_
  rintro e w2 ⟨rfl, S2, ho2⟩
  have HS2 := hidp S2
  clear S2
  go_wp2
  go_ret
  rw [hrel.out, ← HP.out]
  exact ⟨rfl, HS2.out, hF1.trans (Frame2.map ho2)⟩

def st0 (x : Value) : St := { head := 0, g := fun j => if j = 0 then some (x, 0) else none, n := 1 }
theorem new_any (x : Value) (w : World) (hv : ∃ n, x = Value.string n) : Calls Try.prog 24 #[x] w fun e w' => ∃ b mb, e = .returned (.pointer (some ⟨b, 0, none⟩)) ∧ StoreIs w' b mb (st0 x) ∧ w.heap.size ≤ b ∧ w.heap.size ≤ mb ∧ Below w.heap.size w w' := by
  obtain ⟨n, rfl⟩ := hv
  have hmm := @run_makeMap Try.prog
  obtain ⟨w1, hrun, hm1, ho1⟩ := (MapIs.made .i64 w w.heap.size rfl).store (t := 59) Try.underlying59 Try.underlying3 0 (kept (Value.string n, 0))
  simp only [kept] at hrun
  have hb1 : Below w.heap.size w w1 := (((Below.refl _ _).alloc (Nat.le_refl _) _)).trans (ho1.below (Nat.le_refl _))
  have hz : w1.heap.size = w.heap.size + 1 := by rw [ho1.size]; simp
  have HM := hidp (And.intro hm1 hz)
  clear hm1 hz ho1
  go_enter Try.func24, Try.ntmps24
  go_wp2
  go_ret
  obtain ⟨hm1, hz⟩ := HM.out
  refine ⟨w1.heap.size, w.heap.size, rfl, ⟨heap_alloc_new w1 _, (hm1.alloc _).congr fun j => ?_⟩, by omega, Nat.le_refl _, hb1.alloc (by omega) _⟩
  simp only [St.f, st0, upd]
  split <;> rfl
end Go.Proofs.Ytacnphokgggmdaa.S
