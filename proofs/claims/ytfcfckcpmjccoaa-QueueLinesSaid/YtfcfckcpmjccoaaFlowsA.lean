/- For the law QueueFlows: Put and Take with a word on where the bytes lie; what a round carries. -/
import Derived.Test.YtfcfckcpmjccoaaQA
import Derived.Test.YtfcfckcpmjccoaaApp
import Derived.Deep.Slices
namespace Go.Proofs.Ytfcfckcpmjccoaa
open Go.RowKit

theorem put_sep (base b : Nat) (v : Value) (xs : List Int) (most : Nat) (a : Option Addr) (c m : Nat) (bs : List Int) (w : World) (h : QIs w 48 base b v xs most false) (hS : Src w a c bs) (hbs : ∀ x ∈ bs, 0 ≤ x ∧ x ≤ 255) (hm : bs.length = m) :
    Calls Try.prog 9 #[.pointer (some ⟨b, 0, none⟩), .slice a m c] w fun e w' => e = .returned (.int .i64 (putN xs most bs)) ∧ (∃ v', QIs w' 48 base b v' (xs ++ bs.take (putN xs most bs)) most false ∧ FromTo w v v') ∧ Frame1 b w w' := by
  subst hm
  rcases Nat.eq_zero_or_pos (putN xs most bs) with h0 | h0
  · refine (put_zero base b v xs most false a c bs w h h0).mono ?_
    rintro e w' ⟨rfl, hB⟩
    exact ⟨by rw [h0]; rfl, ⟨v, by simpa [h0] using h.below hB (Nat.le_refl _), fun g hg => .inl hg⟩, Frame1.of_below hB⟩
  · refine (put_pos' base b v xs most false a c bs w h hS hbs _ rfl h0).mono ?_
    rintro e w' ⟨rfl, ⟨v', h1, h2⟩, h3⟩
    refine ⟨rfl, ⟨v', ?_, fun g hg => .inr (h2 rfl g hg)⟩, h3⟩
    simpa [putX, putS] using h1
theorem take_sep (base b : Nat) (v : Value) (xs : List Int) (most : Nat) (skip : Bool) (n : Int) (w : World) (h : QIs w 48 base b v xs most skip) :
    Calls Try.prog 12 #[.pointer (some ⟨b, 0, none⟩), .int .i64 n] w fun e w' => ∃ v', e = .returned v' ∧ OwnMid w' w.heap.size 5 v' (takeN xs n) ((xs.take (takeN xs n)).map (Value.int .u8)) ∧ (∃ v'', QIs w' 48 base b v'' (xs.drop (takeN xs n)) most skip ∧ FromTo w v v'') ∧ Frame1 b w w' := by
  by_cases h0 : takeN xs n = 0
  · refine (take_zero base b v xs most skip n w h h0).mono ?_
    rintro e w' ⟨rfl, rfl⟩
    rw [h0]
    exact ⟨_, rfl, OwnMid.nil _ _ _, ⟨v, by simpa using h, fun g hg => .inl hg⟩, Frame1.refl _ _⟩
  · exact take_pos' base b v xs most skip n _ w h rfl (by omega)

theorem ownsRow_of_heap {w w' : World} {base : Nat} {e : TypeId} {size n : Nat} {v : Value} {xs : List Value} (h : w.ownsRow base e size v n xs) (hk : ∀ g, v.ownBlock = some g → w'.heap[g]? = w.heap[g]?) : w'.ownsRow base e size v n xs := by
  obtain ⟨h1, h2 | ⟨g, cap, cur, hv, hg, hh, r⟩⟩ := h
  · exact ⟨h1, .inl h2⟩
  · exact ⟨h1, .inr ⟨g, cap, cur, hv, hg, by rw [hk g (by rw [hv]; rfl)]; exact hh, r⟩⟩
theorem ownsRow_block {w : World} {base : Nat} {e : TypeId} {size n : Nat} {v : Value} {xs : List Value} (h : w.ownsRow base e size v n xs) : ∀ g, v.ownBlock = some g → base ≤ g ∧ ∃ cur, w.heap[g]? = some (.cells cur e (0, 0)) := by
  obtain ⟨h1, ⟨hv, _⟩ | ⟨g, cap, cur, hv, hg, hh, r⟩⟩ := h
  · intro k hk; rw [hv] at hk; cases hk
  · intro k hk; rw [hv] at hk; cases hk; exact ⟨hg, cur, hh⟩
theorem QIs.of_heap2 {w w' : World} {t : TypeId} {base b : Nat} {v : Value} {xs : List Int} {most : Nat} {skip : Bool} (h : QIs w t base b v xs most skip)
    (hk : ∀ k, k < w.heap.size → (k = b ∨ v.ownBlock = some k) → w'.heap[k]? = w.heap[k]?) : QIs w' t base b v xs most skip :=
  ⟨by rw [hk b (ltOf h.blk) (.inl rfl)]; exact h.blk, h.own.of_heap fun g hg => by obtain ⟨_, c, hc⟩ := h.own.block g hg; exact hk g (ltOf hc) (.inr hg), h.hb, h.rng, h.len, h.max, h.ne5⟩

/-- the queue and the row of what came out lie apart -/
structure FL (w : World) (q M L : Nat) (xs ys : List Int) (o : Value) (wr : World) : Prop where
  q : ∃ v, QIs wr 48 w.heap.size q v xs M false ∧ ∀ g, v.ownBlock = some g → o.ownBlock ≠ some g
  o : wr.ownsRow w.heap.size 5 1 o L (ys.map (Value.int .u8))
  below : Below w.heap.size w wr
theorem FL.step {w wr w2 : World} {q M L : Nat} {xs xs' ys : List Int} {o v v' : Value} (h : FL w q M L xs ys o wr) (hq : QIs wr 48 w.heap.size q v xs M false) (hv : ∀ g, v.ownBlock = some g → o.ownBlock ≠ some g)
    (q2 : QIs w2 48 w.heap.size q v' xs' M false) (hf : FromTo wr v v') (F : Frame1 q wr w2) : FL w q M L xs' ys o w2 := by
  have hne : ∀ g, o.ownBlock = some g → g < wr.heap.size ∧ g ≠ q := by
    intro g hg
    obtain ⟨_, c, hc⟩ := ownsRow_block h.o g hg
    exact ⟨ltOf hc, by rintro rfl; rw [hq.blk] at hc; cases hc⟩
  refine ⟨⟨v', q2, fun g hg ho => ?_⟩, ownsRow_of_heap h.o fun g hg => F.block g (hne g hg).1 (hne g hg).2, h.below.trans (F.below h.below.size hq.hb)⟩
  rcases hf g hg with h1 | h1
  · exact hv g h1 ho
  · have := (hne g ho).1; omega
theorem FL.grow {w wr w2 : World} {q M L L' : Nat} {xs ys ys' : List Int} {o o' : Value} (h : FL w q M L xs ys o wr) (ho : w2.ownsRow w.heap.size 5 1 o' L' (ys'.map (Value.int .u8))) (hg : wr.grownBy w2 o.ownBlock)
    (hat : o'.ownBlock = o.ownBlock ∨ o'.ownBlock = some wr.heap.size) : FL w q M L' xs ys' o' w2 := by
  obtain ⟨v, hq, hv⟩ := h.q
  refine ⟨⟨v, hq.of_heap2 fun k hk hkv => hg.block k hk ?_, fun g hgv e => ?_⟩, ho, h.below.grown hg h.below.size fun k hk => (ownsRow_block h.o k hk).1⟩
  · rcases hkv with rfl | hkv
    · intro e
      obtain ⟨_, c, hc⟩ := ownsRow_block h.o _ e.symm
      rw [hq.blk] at hc; cases hc
    · exact fun e => hv k hkv e.symm
  · obtain ⟨_, c, hc⟩ := hq.own.block g hgv
    have := ltOf hc
    rcases hat with e1 | e1
    · rw [e1] at e; exact hv g hgv e
    · rw [e1] at e; cases e; omega

theorem Src.drop {w : World} {ad : Addr} {c k : Nat} {bs : List Int} (h : Src w (some ad) c bs) (hk : k ≤ bs.length) : Src w (some (ad.add k)) (c - k) (bs.drop k) := by
  have hl := h.1
  refine ⟨by simp; omega, fun hp => ⟨_, rfl, fun j u hu => ?_⟩⟩
  obtain ⟨ad', e, h2⟩ := h.2 (by simp at hp; omega)
  cases e
  rw [show (ad.add k).add j = ad.add (k + j) by rw [Go.Deep.add_add]]
  refine h2 (k + j) u ?_
  rw [List.map_drop, List.getElem?_drop] at hu
  exact hu
theorem Src.none {w : World} {a : Option Addr} {c : Nat} : Src w a c [] := ⟨Nat.zero_le _, fun h => absurd h (by simp)⟩
theorem str_src {w : World} {ad : Addr} {c : Nat} (c' : Nat) {bs : List Int} (n : Nat) (hn : n ≤ bs.length) (h : Src w (some ad) c bs) : (convert 27 9 (.slice (some ad) n c')).run Try.prog w = .ok (.string (strOfNums (bs.take n))) w := by
  have hl : (loadCells ad n).run Try.prog w = .ok ((bs.take n).map (Value.int .u8)).toArray w := by
    have := run_loadCells_list (P := Try.prog) w ad ((bs.take n).map (Value.int .u8)) (fun j v hj => by
      have hjl := (List.getElem?_eq_some_iff.1 hj).1
      obtain ⟨ad', e, h2⟩ := h.2 (by simp at hjl; omega)
      cases e
      refine h2 j v ?_
      rw [List.map_take, List.getElem?_take] at hj
      split at hj
      · exact hj
      · cases hj)
    rw [show ((bs.take n).map (Value.int .u8)).length = n by simp; omega] at this
    exact this
  rw [run_convert_bytes_string w 27 9 5 _ n c' Try.underlying27 Try.underlying5 Try.underlying9, run_bytesToString w _ n c' _ hl, foldl_push_bytes]
  simp [strOfNums, ByteArray.empty, ByteArray.emptyWithCapacity]
  rfl
theorem str_any {w : World} {a : Option Addr} {c : Nat} (c' : Nat) {bs : List Int} (n : Nat) (hn : n ≤ bs.length) (h : Src w a c bs) : (convert 27 9 (.slice a n c')).run Try.prog w = .ok (.string (strOfNums (bs.take n))) w := by
  cases a with
  | some ad => exact str_src c' n hn h
  | none =>
    have hb : bs = [] := by
      rcases Nat.eq_zero_or_pos bs.length with h0 | h0
      · exact List.eq_nil_of_length_eq_zero h0
      · obtain ⟨_, e, _⟩ := h.2 h0; cases e
    subst hb
    obtain rfl : n = 0 := by simpa using hn
    exact run_convert_bytes_nil w 27 5 Try.underlying27 Try.underlying5 0 c' 9 Try.underlying9
theorem OwnMid.src {w : World} {base n : Nat} {a : Option Addr} {c : Nat} {xs : List Int} (h : OwnMid w base 5 (.slice a n c) n (xs.map (Value.int .u8))) : 0 < n → ∃ ad, a = some ad ∧ ∀ j u, (xs.map (Value.int .u8))[j]? = some u → w.cell? (ad.add j) = some u := by
  intro hp
  have hl := h.1
  obtain ⟨ad, h1, h2⟩ := h.source a c rfl n (by rw [List.length_take, hl]; omega)
  refine ⟨ad, h1, fun j u hu => h2 j u ?_⟩
  rw [← hu, List.take_of_length_le (by omega)]
theorem list_put (bs : List Int) (L k n : Nat) (hL : L ≤ k) (hk : k ≤ bs.length) : (bs.take k).drop L ++ (bs.drop k).take n = (bs.take (k + n)).drop L := by
  rw [List.take_add, List.drop_append_of_le_length (by simp; omega)]
theorem list_take (bs : List Int) (L k T : Nat) (hT : L + T ≤ k) : bs.take L ++ ((bs.take k).drop L).take T = bs.take (L + T) := by
  rw [List.take_add, List.drop_take, List.take_take, Nat.min_eq_left (by omega)]
end Go.Proofs.Ytfcfckcpmjccoaa
