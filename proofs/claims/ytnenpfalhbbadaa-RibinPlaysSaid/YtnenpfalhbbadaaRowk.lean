/- Updates, prefixes that come in, opened. -/
import Derived.Test.YtnenpfalhbbadaaKF
import Derived.ProofKit
import Derived.OpenShut
import Derived.Deep.Slices
namespace Go.Proofs.Ytnenpfalhbbadaa
open Go.ChangeShapes Go.WideShapes Go.ChangeAt Go.RowKit Go.Deep

theorem Try.own : ownKnob Try.prog.godebug = none := by kernel_rfl
theorem Try.laidOut : laidOutB Try.prog = true := by kernel_rfl
theorem Try.cells3 : Try.prog.cellsOf 3 = 1 := by kernel_rfl
theorem Try.cells4 : Try.prog.cellsOf 4 = 1 := by kernel_rfl
theorem Try.cells5 : Try.prog.cellsOf 5 = 1 := by kernel_rfl
theorem Try.cells33 : Try.prog.cellsOf 33 = 1 := by kernel_rfl
theorem Try.cells34 : Try.prog.cellsOf 34 = 1 := by kernel_rfl
theorem Try.cells79 : Try.prog.cellsOf 79 = 1 := by kernel_rfl
theorem Try.cells32 : Try.prog.cellsOf 32 = 1 := by kernel_rfl
theorem Try.cells35 : Try.prog.cellsOf 35 = 1 := by kernel_rfl
theorem Try.cells29 : Try.prog.cellsOf 29 = 1 := by kernel_rfl
theorem Try.cells44 : Try.prog.cellsOf 44 = 2 := by kernel_rfl
theorem Try.cells97 : Try.prog.cellsOf 97 = 2 := by kernel_rfl
theorem Try.cells81 : Try.prog.cellsOf 81 = 3 := by kernel_rfl
theorem Try.cells37 : Try.prog.cellsOf 37 = 11 := by kernel_rfl
theorem Try.cells39 : Try.prog.cellsOf 39 = 13 := by kernel_rfl

section
variable {H : Type} {enc : TypeId × Value → H} {W : World} {base : Nat} {spare : Nat → Bool} {held : Bool}
/-- a slice of values of k cells each, opened -/
theorem open_rows {α : Type} (f : α → List Value) (k : Nat) (hk0 : 0 < k) (hk : ∀ x, (f x).length = k) (Q : α → Prop) (x0 : α) {t e : TypeId} (ht : Try.prog.underlying t = some (.slice e)) (hc : Try.prog.cellsOf e = k)
    (hop : ∀ (fuel : Nat) (cs : List Value) (y : DataW H × List MemPlace), cs.length = k → DataW.trod enc Try.prog W base spare held fuel e cs = some y → ∃ x, cs = f x ∧ Q x)
    {fuel : Nat} {v : Value} {y : DataW H × List MemPlace} (hf : DataW.trod enc Try.prog W base spare held fuel t [v] = some y) :
    ∃ (a : Option Addr) (n cap : Nat) (L : List α), v = .slice a n cap ∧ (RowV W a n k (L.flatMap f) ∧ L.length = n) ∧ (∀ x ∈ L, Q x) ∧ n ≤ 9223372036854775807 := by
  rcases open_slice ht hf with ⟨hcs, _⟩ | ⟨a', len, cap, m, fu, D, Pl, hcs, _, hl, hm, hmm, _, hall⟩
  · cases hcs
    exact ⟨none, 0, 0, [], rfl, ⟨RowV.nil W k |> fun h => ⟨by simp, fun h => absurd h (by decide)⟩, rfl⟩, fun c h => absurd h (by simp), by decide⟩
  · cases hcs
    have hlm : len ≤ m := by rw [hmm]; split <;> omega
    have hx : ∀ i, ∃ q : α, i < len → (∀ j u, (f q)[j]? = some u → W.cell? ((a'.add (i * k)).add j) = some u) ∧ Q q := by
      intro i
      by_cases hi : i < len
      · obtain ⟨cs', h1, h2⟩ := hall i (by omega)
        rw [hc] at h1
        obtain ⟨_, hlen, hcell⟩ := World.cells?_some h1
        obtain ⟨q, e, hat⟩ := hop _ _ _ hlen h2
        refine ⟨q, fun _ => ⟨fun j u hu => ?_, hat⟩⟩
        have hj : j < k := by rw [← hlen, e]; exact (List.getElem?_eq_some_iff.1 hu).1
        rw [hcell j hj, e]
        exact hu
      · exact ⟨x0, fun h => absurd h hi⟩
    obtain ⟨q, hq⟩ := Classical.axiomOfChoice hx
    have hfl : ∀ l : List α, (l.flatMap f).length = l.length * k := fun l => by
      induction l with
      | nil => simp
      | cons x r ih => rw [List.flatMap_cons, List.length_append, ih, hk, List.length_cons, Nat.add_mul]; omega
    refine ⟨some a', len, cap, (List.range len).map q, rfl, ⟨⟨by rw [hfl]; simp, fun hpos => ?_⟩, by simp⟩, fun c hc => ?_, by unfold maxLen at hm; omega⟩
    · obtain ⟨g, o, sp⟩ := a'
      have hs : sp = none := by
        have h0 := (hq 0 hpos).1 0 ((f (q 0))[0]'(by rw [hk]; exact hk0)) (List.getElem?_eq_getElem _)
        rw [add_add] at h0
        simpa [Addr.add] using World.cell?_spot h0
      subst hs
      refine ⟨g, o, rfl, fun j u hu => ?_⟩
      have hj : j < len * k := by have := (List.getElem?_eq_some_iff.1 hu).1; rw [hfl] at this; simpa using this
      have hi : j / k < len := Nat.div_lt_of_lt_mul (by rw [Nat.mul_comm]; exact hj)
      have hr : j % k < k := Nat.mod_lt _ hk0
      have hjk : j / k * k + j % k = j := by rw [Nat.mul_comm]; exact Nat.div_add_mod j k
      have h2 := flat_get f k hk ((List.range len).map q) (j / k) (j % k) (by simpa using hi) hr
      rw [hjk, hu] at h2
      simp only [List.getElem_map, List.getElem_range] at h2
      have := (hq (j / k) hi).1 (j % k) u h2.symm
      rw [add_add, Addr.add_lit, hjk] at this
      exact this
    · obtain ⟨i, hi, rfl⟩ := List.mem_map.1 hc
      exact (hq i (List.mem_range.1 hi)).2
theorem one_flat (g : Int → Value) (l : List Int) : l.flatMap (fun x => [g x]) = l.map g := by
  induction l with
  | nil => rfl
  | cons x r ih => simp [ih]
theorem open_u32s {fuel : Nat} {v : Value} {y : DataW H × List MemPlace} (hf : DataW.trod enc Try.prog W base spare held fuel 34 [v] = some y) :
    ∃ (a : Option Addr) (n cap : Nat) (L : List Int), v = .slice a n cap ∧ RowV W a n 1 (L.map (Value.int .u32)) ∧ n ≤ 9223372036854775807 := by
  obtain ⟨a, n, cap, L, h1, ⟨h2, -⟩, -, h4⟩ := open_rows (fun x => [Value.int .u32 x]) 1 (by decide) (fun _ => rfl) (fun _ => True) 0 Try.underlying34 Try.cells33 (fun fu cs z hl h => by
    obtain ⟨x, e, _⟩ := DataW.trod_int Try.underlying33 h
    exact ⟨x, e, trivial⟩) hf
  exact ⟨a, n, cap, L, h1, by rw [← one_flat]; exact h2, h4⟩
theorem open_u8s {fuel : Nat} {v : Value} {y : DataW H × List MemPlace} (hf : DataW.trod enc Try.prog W base spare held fuel 79 [v] = some y) :
    ∃ (a : Option Addr) (n cap : Nat) (L : List Int), v = .slice a n cap ∧ RowV W a n 1 (L.map (Value.int .u8)) ∧ n ≤ 9223372036854775807 ∧ ∀ x ∈ L, 0 ≤ x ∧ x ≤ 255 := by
  obtain ⟨a, n, cap, L, h1, ⟨h2, -⟩, h3, h4⟩ := open_rows (fun x => [Value.int .u8 x]) 1 (by decide) (fun _ => rfl) (fun x => 0 ≤ x ∧ x ≤ 255) 0 Try.underlying79 Try.cells5 (fun fu cs z hl h => by
    obtain ⟨x, e, _, w0⟩ := DataW.trod_int Try.underlying5 h
    simp [Lit.wf] at w0
    rw [show IntKind.u8.min = 0 from rfl, show IntKind.u8.max = 255 from rfl] at w0
    exact ⟨x, e, w0⟩) hf
  exact ⟨a, n, cap, L, h1, by rw [← one_flat]; exact h2, h4, h3⟩
def sgOk (W : World) (s : Sg) : Prop := RowV W s.a s.n 1 (s.nums.map (Value.int .u32)) ∧ s.n ≤ 9223372036854775807
def rwOk (W : World) (s : Rw) : Prop := RowV W s.a s.n 1 (s.bytes.map (Value.int .u8)) ∧ s.n ≤ 9223372036854775807 ∧ ∀ x ∈ s.bytes, 0 ≤ x ∧ x ≤ 255
theorem open_sg (fuel : Nat) (cs : List Value) (y : DataW H × List MemPlace) (hl : cs.length = 2) (hf : DataW.trod enc Try.prog W base spare held fuel 97 cs = some y) : ∃ s : Sg, cs = s.cells ∧ sgOk W s := by
  match cs, hl with
  | [v0, v1], _ =>
    obtain ⟨xs, k, _, _, _, hxl, hx⟩ := DataW.trod_struct Try.underlying97 hf
    match xs, hxl with
    | [y0, y1], _ =>
      have g0 := hx 0 _ rfl
      have g1 := hx 1 _ rfl
      simp [Try.cells3, Try.cells34] at g0 g1
      obtain ⟨a0, e0, _⟩ := DataW.trod_int Try.underlying3 g0
      obtain ⟨a, n, c, L, e1, h1, h2⟩ := open_u32s g1
      simp at e0
      subst e0 e1
      exact ⟨⟨a0, a, n, c, L⟩, rfl, h1, h2⟩
theorem open_rw (fuel : Nat) (cs : List Value) (y : DataW H × List MemPlace) (hl : cs.length = 3) (hf : DataW.trod enc Try.prog W base spare held fuel 81 cs = some y) : ∃ s : Rw, cs = s.cells ∧ rwOk W s := by
  match cs, hl with
  | [v0, v1, v2], _ =>
    obtain ⟨xs, k, _, _, _, hxl, hx⟩ := DataW.trod_struct Try.underlying81 hf
    match xs, hxl with
    | [y0, y1, y2], _ =>
      have g0 := hx 0 _ rfl
      have g1 := hx 1 _ rfl
      have g2 := hx 2 _ rfl
      simp [Try.cells3, Try.cells79] at g0 g1 g2
      obtain ⟨a0, e0, _⟩ := DataW.trod_int Try.underlying3 g0
      obtain ⟨a1, e1, _⟩ := DataW.trod_int Try.underlying3 g1
      obtain ⟨a, n, c, L, e2, h1, h2⟩ := open_u8s g2
      simp at e0 e1
      subst e0 e1 e2
      exact ⟨⟨a0, a1, a, n, c, L⟩, rfl, h1, h2⟩
theorem open_pf (fuel : Nat) (cs : List Value) (y : DataW H × List MemPlace) (hl : cs.length = 2) (hf : DataW.trod enc Try.prog W base spare held fuel 44 cs = some y) : ∃ p : Pf, cs = p.cells ∧ p.ok := by
  match cs, hl with
  | [v0, v1], _ =>
    obtain ⟨xs, k, _, _, _, hxl, hx⟩ := DataW.trod_struct Try.underlying44 hf
    match xs, hxl with
    | [y0, y1], _ =>
      have g0 := hx 0 _ rfl
      have g1 := hx 1 _ rfl
      simp [Try.cells3, Try.cells33] at g0 g1
      obtain ⟨a0, e0, _, w0⟩ := DataW.trod_int Try.underlying33 g0
      obtain ⟨a1, e1, _⟩ := DataW.trod_int Try.underlying3 g1
      simp at e0 e1
      subst e0 e1
      have hw : 0 ≤ a0 ∧ a0 < 4294967296 := by
        simp [Lit.wf] at w0
        rw [show IntKind.u32.min = 0 from rfl, show IntKind.u32.max = 4294967295 from rfl] at w0
        omega
      obtain ⟨m, rfl⟩ := Int.eq_ofNat_of_zero_le hw.1
      exact ⟨⟨m, a1⟩, rfl, by unfold Pf.ok; show m < 4294967296; omega⟩
theorem open_att (fuel : Nat) (cs : List Value) (y : DataW H × List MemPlace) (hl : cs.length = 11) (hf : DataW.trod enc Try.prog W base spare held fuel 37 cs = some y) : ∃ v : Att, cs = v.cells ∧ v.at W := by
  match cs, hl with
  | [v0, v1, v2, v3, v4, v5, v6, v7, v8, v9, v10], _ =>
    obtain ⟨zs, k2, _, _, _, hzl, hz⟩ := DataW.trod_struct Try.underlying37 hf
    match zs, hzl with
    | [z0, z1, z2, z3, z4, z5, z6, z7, z8, z9, z10], _ =>
      have q0 := hz 0 _ rfl
      have q1 := hz 1 _ rfl
      have q2 := hz 2 _ rfl
      have q3 := hz 3 _ rfl
      have q4 := hz 4 _ rfl
      have q5 := hz 5 _ rfl
      have q6 := hz 6 _ rfl
      have q7 := hz 7 _ rfl
      have q8 := hz 8 _ rfl
      have q9 := hz 9 _ rfl
      have q10 := hz 10 _ rfl
      simp [Try.cells3, Try.cells32, Try.cells33, Try.cells34, Try.cells35, Try.cells4] at q0 q1 q2 q3 q4 q5 q6 q7 q8 q9 q10
      obtain ⟨b0, f0, _⟩ := DataW.trod_int Try.underlying3 q0
      obtain ⟨pa, pl, pc, S, f1, hS, hS2, hS3⟩ := open_rows Sg.cells 2 (by decide) (fun _ => rfl) (sgOk W) ⟨0, none, 0, 0, []⟩ Try.underlying32 Try.cells97 open_sg q1
      obtain ⟨b2, f2, _⟩ := DataW.trod_int Try.underlying33 q2
      obtain ⟨b3, f3, _⟩ := DataW.trod_int Try.underlying3 q3
      obtain ⟨b4, f4, _⟩ := DataW.trod_int Try.underlying3 q4
      obtain ⟨b5, f5, _⟩ := DataW.trod_bool Try.underlying4 q5
      obtain ⟨b6, f6, _⟩ := DataW.trod_bool Try.underlying4 q6
      obtain ⟨b7, f7, _⟩ := DataW.trod_int Try.underlying33 q7
      obtain ⟨b8, f8, _⟩ := DataW.trod_int Try.underlying33 q8
      obtain ⟨ca, cl, cc, C, f9, hC, hC2⟩ := open_u32s q9
      obtain ⟨ra, rl, rc, R, f10, hR, hR2, hR3⟩ := open_rows Rw.cells 3 (by decide) (fun _ => rfl) (rwOk W) ⟨0, 0, none, 0, 0, []⟩ Try.underlying35 Try.cells81 open_rw q10
      simp at f0 f2 f3 f4 f5 f6 f7 f8
      subst f0 f1 f2 f3 f4 f5 f6 f7 f8 f9 f10
      exact ⟨⟨b0, pa, pl, pc, b2, b3, b4, b5, b6, b7, b8, ca, cl, cc, ra, rl, rc, S, C, R⟩, rfl, ⟨hS, fun s hs => (hS2 s hs).1, hC, hR, fun r hr => (hR2 r hr).1, fun s hs => (hS2 s hs).2, fun r hr => (hR2 r hr).2.1, ⟨hS3, hC2, hR3⟩, fun r hr => (hR2 r hr).2.2⟩⟩
theorem open_pfs {fuel : Nat} {v : Value} {y : DataW H × List MemPlace} (hf : DataW.trod enc Try.prog W base spare held fuel 29 [v] = some y) : ∃ (a : Option Addr) (n cap : Nat) (L : List Pf), v = .slice a n cap ∧ PfsV W a n L := by
  obtain ⟨a, n, cap, L, h1, ⟨h2, h3⟩, h4, -⟩ := open_rows Pf.cells 2 (by decide) (fun _ => rfl) Pf.ok ⟨0, 0⟩ Try.underlying29 Try.cells44 open_pf hf
  exact ⟨a, n, cap, L, h1, h2, h3, h4⟩
theorem open_upd (fuel : Nat) (cs : List Value) (y : DataW H × List MemPlace) (hl : cs.length = 13) (hf : DataW.trod enc Try.prog W base spare held fuel 39 cs = some y) : ∃ u : Upd, cs = u.cells ∧ u.at W := by
  match cs, hl with
  | [u0, v0, v1, v2, v3, v4, v5, v6, v7, v8, v9, v10, u12], _ =>
    obtain ⟨zs, k2, _, _, _, hzl, hz⟩ := DataW.trod_struct Try.underlying39 hf
    match zs, hzl with
    | [z0, z1, z2], _ =>
      have q0 := hz 0 _ rfl
      have q1 := hz 1 _ rfl
      have q2 := hz 2 _ rfl
      simp [Try.cells29, Try.cells37] at q0 q1 q2
      obtain ⟨ga, gn, gc, G, f0, hG⟩ := open_pfs q0
      obtain ⟨v, f1, hv⟩ := open_att _ _ _ rfl q1
      obtain ⟨na, nn, nc, N, f2, hN⟩ := open_pfs q2
      subst f0 f2
      refine ⟨⟨ga, gn, gc, v, na, nn, nc, G, N⟩, ?_, hG, hv, hN⟩
      show _ = _ :: (v.cells ++ [_])
      rw [← f1]
      rfl
theorem open_upds {fuel : Nat} {v : Value} {y : DataW H × List MemPlace} (hf : DataW.trod enc Try.prog W base spare held fuel 22 [v] = some y) : ∃ (a : Option Addr) (n cap : Nat) (L : List Upd), v = .slice a n cap ∧ UpdsV W a n L := by
  obtain ⟨a, n, cap, L, h1, ⟨h2, h3⟩, h4, -⟩ := open_rows Upd.cells 13 (by decide) (fun _ => rfl) (fun u => u.at W) ⟨none, 0, 0, att0, none, 0, 0, [], []⟩ Try.underlying22 Try.cells39 open_upd hf
  exact ⟨a, n, cap, L, h1, h2, h3, h4⟩
end
set_option maxRecDepth 100000 in
theorem one_pf {H : Type} {enc : TypeId × Value → H} {W : World} {b0 base : Nat} {spare : Nat → Bool} {held : Bool} {r : Reach} {v : Value} {d : DataW H} {p : List MemPlace}
    (hv : Value.okWide Try.prog W r b0 44 v) (h : DataW.Trod enc Try.prog W base spare held 44 v d p) : ∃ x : Pf, v = x.val ∧ x.ok := by
  obtain ⟨cs, rfl, hsz⟩ := okWide_struct Try.underlying44 hv
  rw [Try.cells44] at hsz
  obtain ⟨fuel, hf⟩ := h
  obtain ⟨c, e, hat⟩ := open_pf _ cs.toList _ (by simpa using hsz) hf
  refine ⟨c, ?_, hat⟩
  show Value.agg cs = .agg c.cells.toArray
  rw [← e]
set_option maxRecDepth 100000 in
theorem one_upd {H : Type} {enc : TypeId × Value → H} {W : World} {b0 base : Nat} {spare : Nat → Bool} {held : Bool} {r : Reach} {v : Value} {d : DataW H} {p : List MemPlace}
    (hv : Value.okWide Try.prog W r b0 39 v) (h : DataW.Trod enc Try.prog W base spare held 39 v d p) : ∃ x : Upd, v = x.val ∧ x.at W := by
  obtain ⟨cs, rfl, hsz⟩ := okWide_struct Try.underlying39 hv
  rw [Try.cells39] at hsz
  obtain ⟨fuel, hf⟩ := h
  obtain ⟨c, e, hat⟩ := open_upd _ cs.toList _ (by simpa using hsz) hf
  refine ⟨c, ?_, hat⟩
  unfold Upd.val
  rw [← e]
set_option maxRecDepth 100000 in
theorem few_upds {H : Type} {enc : TypeId × Value → H} {W : World} {b0 base : Nat} {spare : Nat → Bool} {held : Bool} {r : Reach} {v : Value} {d : DataW H} {p : List MemPlace}
    (hv : Value.okWide Try.prog W r b0 22 v) (h : DataW.Trod enc Try.prog W base spare held 22 v d p) : ∃ (a : Option Addr) (n cap : Nat) (L : List Upd), v = .slice a n cap ∧ UpdsV W a n L := by
  obtain ⟨a, len, cap, rfl⟩ := okWide_slice Try.underlying22 hv
  obtain ⟨fuel, hf⟩ := h
  exact open_upds hf
end Go.Proofs.Ytnenpfalhbbadaa
