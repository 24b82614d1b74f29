/- For the law RankTurns: that the one that is taken does not hang on the places, if no two have the same Peer; rows of candidates of the call's own. -/
import Derived.Test.YthfchjcbkmabpaaRE
import Derived.Test.YthfchjcbkmabpaaApp
namespace Go.Proofs.Ythfchjcbkmabpaa
open Go.RowKit

theorem lle_tail : ∀ {a b : List Int} {x y x' y' : Int}, a.length = b.length → lle (a ++ [x]) (b ++ [y]) → (a = b → x' = y') → lle (a ++ [x']) (b ++ [y'])
  | [], [], x, y, x', y', _, _, h => by
    rw [h rfl]
    exact lle_refl _
  | [], _ :: _, _, _, _, _, h, _, _ => by simp at h
  | _ :: _, [], _, _, _, _, h, _, _ => by simp at h
  | a :: r, b :: s, x, y, x', y', h, p, q => by
    simp only [List.cons_append, lle] at p ⊢
    rcases p with p | ⟨rfl, p⟩
    · exact .inl p
    · exact .inr ⟨rfl, lle_tail (by simpa using h) p (fun e => q (by rw [e]))⟩
section
variable (K : Nat → Nat → Int) (Nr : Nat → Int)
/-- the key without the place -/
def wK (med : Bool) (i : Nat) : List Int := tK K i ++ ((if med = true then [K i 3] else []) ++ sK K i)
theorem vK_w (med : Bool) (i : Nat) : vK K med i = wK K med i ++ [(i : Int)] := by simp [vK, rK, wK, List.append_assoc]
theorem wK_len (med : Bool) (i k : Nat) : (wK K med i).length = (wK K med k).length := by cases med <;> rfl
theorem wK_7 {med : Bool} {i k : Nat} (h : wK K med i = wK K med k) : K i 7 = K k 7 := by
  have : (wK K med i).getLast? = (wK K med k).getLast? := by rw [h]
  cases med <;> simpa [wK, tK, sK] using this
theorem win_map {K' : Nat → Nat → Int} {Nr' : Nat → Int} {n : Nat} (σ : Nat → Nat) (hK : ∀ i, i < n → K' i = K (σ i)) (hN : ∀ i, i < n → Nr' i = Nr (σ i)) (hlt : ∀ i, i < n → σ i < n)
    (sur : ∀ j, j < n → ∃ i, i < n ∧ σ i = j) (inj : ∀ i j, i < n → j < n → σ i = σ j → i = j) (h7 : ∀ i j, i < n → j < n → K i 7 = K j 7 → i = j) {b : Nat} (h : Win K' Nr' (List.range n) b) : Win K Nr (List.range n) (σ b) := by
  have hb : b < n := List.mem_range.1 h.mem
  have hw : ∀ med i, i < n → wK K' med i = wK K med (σ i) := fun med i hi => by unfold wK tK sK; rw [hK i hi]
  have tw : ∀ med i j, i < n → j < n → lle (vK K' med i) (vK K' med j) → lle (vK K med (σ i)) (vK K med (σ j)) := fun med i j hi hj hl => by
    rw [vK_w, vK_w, hw med i hi, hw med j hj] at hl
    rw [vK_w, vK_w]
    exact lle_tail (wK_len K med _ _) hl (fun e => by rw [h7 _ _ (hlt i hi) (hlt j hj) (wK_7 K e)])
  have fro : ∀ med i j, i < n → j < n → lle (vK K med (σ i)) (vK K med (σ j)) → lle (vK K' med i) (vK K' med j) := fun med i j hi hj hl => by
    rw [vK_w, vK_w] at hl
    rw [vK_w, vK_w, hw med i hi, hw med j hj]
    exact lle_tail (wK_len K med _ _) hl (fun e => by rw [inj i j hi hj (h7 _ _ (hlt i hi) (hlt j hj) (wK_7 K e))])
  refine ⟨List.mem_range.2 (hlt b hb), fun j hj hn => ?_, fun g hg hgb => ?_⟩
  · obtain ⟨i, hi, rfl⟩ := sur j (List.mem_range.1 hj)
    exact tw true b i hb hi (h.near i (List.mem_range.2 hi) (by rw [hN i hi, hN b hb]; exact hn))
  · obtain ⟨i, hi, rfl⟩ := sur g (List.mem_range.1 hg)
    refine tw false b i hb hi (h.all i (List.mem_range.2 hi) fun j hj hn => ?_)
    have hj' := List.mem_range.1 hj
    exact fro true i j hi hj' (hgb (σ j) (List.mem_range.2 (hlt j hj')) (by rw [← hN j hj', ← hN i hi]; exact hn))
end
theorem rot_at {n f i : Nat} (hf : f < n) (hi : i < n) : (i + f) % n = if i + f < n then i + f else i + f - n := by
  split
  · exact Nat.mod_eq_of_lt (by assumption)
  · rw [Nat.mod_eq_sub_mod (by omega)]
    exact Nat.mod_eq_of_lt (by omega)
/-- candidates, each from its place -/
def turnL (L : List Cnd) (σ : Nat → Nat) (k : Nat) : List Cnd := (List.range k).map fun i => L.getD (σ i) cnd0
theorem turn_len (L : List Cnd) (σ : Nat → Nat) (k : Nat) : (turnL L σ k).length = k := by simp [turnL]
theorem turn_get (L : List Cnd) (σ : Nat → Nat) (k : Nat) {i : Nat} (hi : i < k) : (turnL L σ k).getD i cnd0 = L.getD (σ i) cnd0 := by
  simp [turnL, List.getD, hi]
theorem turn_succ (L : List Cnd) (σ : Nat → Nat) (k : Nat) : turnL L σ (k + 1) = turnL L σ k ++ [L.getD (σ k) cnd0] := by
  simp [turnL, List.range_succ]
theorem turn_mem {L : List Cnd} {σ : Nat → Nat} {k : Nat} (h : ∀ i, i < k → σ i < L.length) {c : Cnd} (hc : c ∈ turnL L σ k) : c ∈ L := by
  obtain ⟨i, hi, rfl⟩ := List.mem_map.1 hc
  have := h i (List.mem_range.1 hi)
  simp [List.getD, this]
/-- the one that is taken of turned candidates is the one that is taken -/
theorem turn_best {L : List Cnd} {n : Nat} (hn : L.length = n) (σ : Nat → Nat) (hlt : ∀ i, i < n → σ i < n) (sur : ∀ j, j < n → ∃ i, i < n ∧ σ i = j) (inj : ∀ i j, i < n → j < n → σ i = σ j → i = j)
    (h7 : ∀ i j, i < n → j < n → (L.getD i cnd0).peer = (L.getD j cnd0).peer → i = j) {a b : Int} (h0 : 0 < n) (ha : PBest L a) (hb : PBest (turnL L σ n) b) :
    ∃ (i j : Nat), a = i ∧ b = j ∧ i < n ∧ j < n ∧ (L.getD i cnd0).peer = ((turnL L σ n).getD j cnd0).peer := by
  unfold PBest at ha hb
  rw [turn_len] at hb
  rw [hn] at ha
  have hne : List.range n ≠ [] := by intro h; have := congrArg List.length h; rw [List.length_range] at this; simp only [List.length_nil] at this; omega
  obtain ⟨i, rfl, hwi⟩ := ha.2 hne
  obtain ⟨j, rfl, hwj⟩ := hb.2 hne
  have hi := List.mem_range.1 hwi.mem
  have hj := List.mem_range.1 hwj.mem
  have hm := win_map (KL L) (NL L) σ (fun i hi => by unfold KL; rw [turn_get L σ n hi]) (fun i hi => by unfold NL; rw [turn_get L σ n hi]) hlt sur inj (fun i j hi hj h => h7 i j hi hj h) hwj
  refine ⟨i, j, rfl, rfl, hi, hj, ?_⟩
  rw [win_uniq _ _ hwi hm, turn_get L σ n hj]

theorem ownsRow_of_heap {w w' : World} {base : Nat} {e : TypeId} {size n : Nat} {v : Value} {xs : List Value} (h : w.ownsRow base e size v n xs) (hk : ∀ g, v.ownBlock = some g → w'.heap[g]? = w.heap[g]?) : w'.ownsRow base e size v n xs := by
  obtain ⟨h1, h2 | ⟨g, cap, cur, hv, hg, hh, r⟩⟩ := h
  · exact ⟨h1, .inl h2⟩
  · exact ⟨h1, .inr ⟨g, cap, cur, hv, hg, by rw [hk g (by rw [hv]; rfl)]; exact hh, r⟩⟩
theorem ownsRow_block {w : World} {base : Nat} {e : TypeId} {size n : Nat} {v : Value} {xs : List Value} (h : w.ownsRow base e size v n xs) : ∀ g, v.ownBlock = some g → base ≤ g ∧ ∃ cur, w.heap[g]? = some (.cells cur e (0, 0)) := by
  obtain ⟨h1, ⟨hv, _⟩ | ⟨g, cap, cur, hv, hg, hh, r⟩⟩ := h
  · intro k hk; rw [hv] at hk; cases hk
  · intro k hk; rw [hv] at hk; cases hk; exact ⟨hg, cur, hh⟩
/-- a row of candidates of the call's own -/
def OutR (w : World) (base : Nat) (v : Value) (L : List Cnd) : Prop := w.ownsRow base 34 16 v L.length (L.flatMap Cnd.cells)
theorem flat_at : ∀ (L : List Cnd) (i j : Nat) (v : Value), (h : i < L.length) → L[i].cells[j]? = some v → (L.flatMap Cnd.cells)[i * 16 + j]? = some v
  | [], i, _, _, h, _ => absurd h (by simp)
  | c :: r, 0, j, v, _, hv => by
    have hj : j < 16 := (List.getElem?_eq_some_iff.1 hv).1
    rw [List.flatMap_cons, List.getElem?_append_left (by show 0 * 16 + j < 16; omega), Nat.zero_mul, Nat.zero_add]
    exact hv
  | c :: r, i + 1, j, v, h, hv => by
    rw [List.flatMap_cons, List.getElem?_append_right (by show 16 ≤ _; omega), show (i + 1) * 16 + j - c.cells.length = i * 16 + j by show (i + 1) * 16 + j - 16 = _; omega]
    exact flat_at r i j v (by simpa using h) hv
theorem OutR.cands {w : World} {base : Nat} {v : Value} {L : List Cnd} (h : OutR w base v L) (hat : ∀ c ∈ L, c.at w) : ∃ a cap, v = .slice a L.length cap ∧ CandsV w a L.length L := by
  have h' := h
  obtain ⟨_, ⟨hv, h0⟩ | ⟨g, cap, cur, hv, hg, hh, r⟩⟩ := h'
  · exact ⟨none, 0, by rw [hv, h0], rfl, fun hp => absurd hp (by omega), hat⟩
  · refine ⟨some ⟨g, 0, none⟩, cap, hv, rfl, fun _ => ⟨g, 0, rfl, fun i hi j u hu => ?_⟩, hat⟩
    have hc := World.ownsRow.cells (g := g) h (by rw [hv]; rfl) (i * 16 + j) u (flat_at L i j u hi hu)
    rw [Addr.add_mid] at hc
    rw [Nat.add_assoc]
    exact hc

/-- what the loop of the law carries: the list backwards, and turned; the two lie apart -/
structure Two (w : World) (L : List Cnd) (σ τ : Nat → Nat) (k l : Nat) (x y : Value) (wr : World) : Prop where
  bx : OutR wr w.heap.size x (turnL L σ k)
  bY : OutR wr w.heap.size y (turnL L τ l)
  sep : ∀ g, x.ownBlock = some g → y.ownBlock ≠ some g
  below : Below w.heap.size w wr
theorem Two.later {w wr w' : World} {L : List Cnd} {σ τ : Nat → Nat} {k l : Nat} {x y : Value} (h : Two w L σ τ k l x y wr) (hB : Below wr.heap.size wr w') : Two w L σ τ k l x y w' :=
  ⟨ownsRow_below h.bx hB (Nat.le_refl _), ownsRow_below h.bY hB (Nat.le_refl _), h.sep, h.below.trans (hB.mono h.below.size)⟩
theorem Two.swap {w wr : World} {L : List Cnd} {σ τ : Nat → Nat} {k l : Nat} {x y : Value} (h : Two w L σ τ k l x y wr) : Two w L τ σ l k y x wr :=
  ⟨h.bY, h.bx, fun g h1 h2 => h.sep g h2 h1, h.below⟩
theorem Two.push {w wr w' : World} {L : List Cnd} {σ τ : Nat → Nat} {k l : Nat} {x y x' : Value} (h : Two w L σ τ k l x y wr) {c : Cnd} (hc : c = L.getD (σ k) cnd0)
    (ho : w'.ownsRow w.heap.size 34 16 x' ((turnL L σ k).length + 1) ((turnL L σ k).flatMap Cnd.cells ++ c.cells)) (hg : wr.grownBy w' x.ownBlock) (hat : x'.ownBlock = x.ownBlock ∨ ∀ g, x'.ownBlock = some g → wr.heap.size ≤ g) :
    Two w L σ τ (k + 1) l x' y w' := by
  refine ⟨?_, ?_, fun g hgx hgy => ?_, h.below.grown hg h.below.size fun g hgo => (ownsRow_block h.bx g hgo).1⟩
  · unfold OutR
    rw [turn_succ, List.length_append, List.flatMap_append]
    subst hc
    simpa using ho
  · exact ownsRow_of_heap h.bY fun g hgy => by
      obtain ⟨_, cu, hcu⟩ := ownsRow_block h.bY g hgy
      exact hg.block g (ltOf hcu) (fun e => h.sep g e.symm hgy)
  · obtain ⟨_, cu, hcu⟩ := ownsRow_block h.bY g hgy
    have := ltOf hcu
    rcases hat with e | e
    · exact h.sep g (e ▸ hgx) hgy
    · have := e g hgx
      omega
theorem news16 (w : World) (c : Cnd) : ∀ j u, c.cells[j]? = some u → (w.alloc (.cells c.cells.toArray 34)).cell? ((⟨w.heap.size, 0, none⟩ : Addr).add j) = some u := by
  intro j u hu
  rw [Addr.add_mid, Nat.zero_add]
  exact cellOf (heap_alloc_new w _) _ (by simpa using hu)
def z16 : Value := .agg #[.int .i64 0, .bool false, .int .u32 0, .int .u32 0, .int .u32 0, .int .i64 0, .slice none 0 0, .int .u32 0, .int .i64 0, .int .i64 0, .bool false, .bool false, .int .u32 0, .int .u32 0, .slice none 0 0, .slice none 0 0]
theorem fold16 (c : Cnd) : List.foldl (fun (cs : Array Value) (x : Value × Nat) => cs.setIfInBounds x.snd x.fst) #[.int .i64 0, .bool false, .int .u32 0, .int .u32 0, .int .u32 0, .int .i64 0, .slice none 0 0, .int .u32 0, .int .i64 0, .int .i64 0, .bool false, .bool false, .int .u32 0, .int .u32 0, .slice none 0 0, .slice none 0 0] c.cells.zipIdx = c.cells.toArray := by
  unfold Cnd.cells
  simp
theorem Try.infos34 : (Try.prog.info? 34).map (fun i => (i.zero, i.size, i.bytes)) = some (some z16, 16, 144) := by kernel_rfl
end Go.Proofs.Ythfchjcbkmabpaa
