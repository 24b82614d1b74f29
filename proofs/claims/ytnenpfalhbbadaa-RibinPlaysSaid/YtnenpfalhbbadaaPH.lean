/- A peer's routes: New, Table, Limit, Len. -/
import Derived.Test.YtnenpfalhbbadaaPG
import Derived.Test.YtnenpfalhbbadaaPL
namespace Go.Proofs.Ytnenpfalhbbadaa
open Go.RowKit

/-- routes that a peer told: nil, or where they lie -/
def InAt (wA w : World) (x : Option Addr) (A : Ab) (n lim : Int) : Prop :=
  (x = none ∧ A = .nil ∧ n = 0 ∧ lim = 0) ∨ ∃ (b bt : Nat) (t : Tr), x = some ⟨b, 0, none⟩ ∧ w.heap[b]? = some (.cells #[.pointer (some ⟨bt, 0, none⟩), .int .i64 lim] 61 (0, 0)) ∧ TrieAt wA w bt t n ∧ t.ab = A
theorem InAt.below {wA w w' : World} {x : Option Addr} {A : Ab} {n lim : Int} (h : InAt wA w x A n lim) (hB : Below w.heap.size w w') : InAt wA w' x A n lim := by
  rcases h with h | ⟨b, bt, t, h1, h2, h3, h4⟩
  · exact .inl h
  · exact .inr ⟨b, bt, t, h1, heap_below hB h2 (ltOf h2), h3.below hB, h4⟩
/-- a trie that a call yields -/
def TabE (wA : World) (A : Ab) (n : Int) (e : Ending) (w' : World) : Prop := ∃ (b : Nat) (t : Tr), e = .returned (.pointer (some ⟨b, 0, none⟩)) ∧ TrieAt wA w' b t n ∧ t.ab = A
theorem table_any (wA : World) (x : Option Addr) (A : Ab) (n lim : Int) (w : World) (h : InAt wA w x A n lim) : Calls Try.prog 18 #[.pointer x] w fun e w' => TabE wA A n e w' ∧ Below w.heap.size w w' := by
  rcases h with ⟨rfl, rfl, rfl, rfl⟩ | ⟨b, bt, t, rfl, h2, h3, h4⟩
  · go_enter Try.func18, Try.ntmps18
    go_wp2_with (go_at_call 25; refine (tnew_any wA _).mono ?_; rintro e w1 ⟨⟨b, rfl, hb, h1⟩, B1⟩; have H1 := hidp h1; have HB1 := hidp B1; clear h1 B1 hb)
    go_ret
    exact ⟨⟨b, .nil, rfl, H1.out, rfl⟩, HB1.out⟩
  · have c0 := cellOf h2 0 (v := .pointer (some ⟨bt, 0, none⟩)) rfl
    have H3 := hidp h3
    have H4 := hidp h4
    clear h2 h3 h4
    go_enter Try.func18, Try.ntmps18
    go_wp2
    go_ret
    exact ⟨⟨bt, t, rfl, H3.out, H4.out⟩, Below.refl _ _⟩
theorem limit_any (wA : World) (x : Option Addr) (A : Ab) (n lim : Int) (w : World) (h : InAt wA w x A n lim) : Calls Try.prog 17 #[.pointer x] w fun e w' => e = .returned (.int .i64 lim) ∧ w' = w := by
  rcases h with ⟨rfl, rfl, rfl, rfl⟩ | ⟨b, bt, t, rfl, h2, h3, h4⟩
  · go_enter Try.func17, Try.ntmps17
    go_wp2
    go_ret
    exact ⟨rfl, rfl⟩
  · have c1 := cellOf h2 1 (v := .int .i64 lim) rfl
    clear h2 h3 h4
    go_enter Try.func17, Try.ntmps17
    go_wp2
    go_ret
    exact ⟨rfl, rfl⟩
theorem len_any (wA : World) (x : Option Addr) (A : Ab) (n lim : Int) (w : World) (h : InAt wA w x A n lim) : Calls Try.prog 12 #[.pointer x] w fun e w' => e = .returned (.int .i64 n) ∧ Below w.heap.size w w' := by
  have HT := hidp (table_any wA x A n lim w h)
  clear h
  go_enter Try.func12, Try.ntmps12
  go_wp2_with (first
    | (go_at_call 18; refine HT.out.mono ?_; rintro e w1 ⟨⟨b, t, rfl, h1, h2⟩, B1⟩; have H1 := hidp h1; have HB1 := hidp B1; clear h1 B1 h2)
    | (go_at_call 19; refine (tlen_any wA b t n _ H1.out).mono ?_; rintro e w2 ⟨rfl, rfl⟩))
  go_ret
  exact ⟨rfl, HB1.out⟩
theorem new_any (wA : World) (lim : Int) (w : World) : Calls Try.prog 9 #[.int .i64 lim] w fun e w' => (∃ b : Nat, e = .returned (.pointer (some ⟨b, 0, none⟩)) ∧ w.heap.size ≤ b ∧ InAt wA w' (some ⟨b, 0, none⟩) .nil 0 (if lim < 0 then 0 else lim)) ∧ Below w.heap.size w w' := by
  obtain ⟨m, hm⟩ : ∃ m, (if lim < 0 then 0 else lim) = m := ⟨_, rfl⟩
  have HM := hidp hm
  clear hm
  go_enter Try.func9, Try.ntmps9
  go_wp2_with (go_at_call 25; refine (tnew_any wA _).mono ?_; rintro e w1 ⟨⟨b, rfl, hb, h1⟩, B1⟩; have H1 := hidp h1; have HB1 := hidp (And.intro hb B1); clear h1 B1 hb)
  all_goals (go_ret; exact ⟨⟨w1.heap.size, rfl, HB1.out.2.size, .inr ⟨_, b, .nil, rfl, heap_alloc_new _ _, H1.out.below ((Below.refl _ _).alloc (Nat.le_refl _) _), rfl⟩⟩, HB1.out.2.alloc HB1.out.2.size _⟩)
end Go.Proofs.Ytnenpfalhbbadaa
