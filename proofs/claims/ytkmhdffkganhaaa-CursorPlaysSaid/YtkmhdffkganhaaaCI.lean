/- Rows of cursors; IndexFunc, find. -/
import Derived.Test.YtkmhdffkganhaaaCB
import Derived.Deep.MidRow
namespace Go.Proofs.Ytkmhdffkganhaaa
open Go.RowKit

theorem Try.info34 : (Try.prog.info? 34).map (·.size) = some 16 := by kernel_rfl
/-- cursors that lie one behind the other from an address on -/
def RowC (w : World) (a : Option Addr) (L : List Cur) : Prop := 0 < L.length → ∃ g o, a = some ⟨g, o, none⟩ ∧ ∀ i (h : i < L.length), w.rangeAt g (o + i * 16) L[i].cells
theorem RowC.below {w w' : World} {a : Option Addr} {L : List Cur} (h : RowC w a L) (hB : Below w.heap.size w w') : RowC w' a L := fun hp => by
  obtain ⟨g, o, e, h2⟩ := h hp
  exact ⟨g, o, e, fun i hi j v hv => below_cell hB (Nat.le_refl _) _ _ (h2 i hi j v hv)⟩

/-- the first one that p takes -/
def idxC (p : Cur → Bool) : List Cur → Int
  | [] => -1
  | c :: r => if p c then 0 else if idxC p r < 0 then -1 else idxC p r + 1

theorem enters_fn {f : FuncId} {fn : Func} {c : Code} (hf : Try.prog.funcs[f]? = some fn) (hname : (fn.name == "runtime.NumGoroutine") = false) (hb : fn.body = some c) (args : Array Value) (w : World) :
    (callFunc f args).run Try.prog w = .ok (.enter f args) w := by
  have h1 : fn.name ≠ "runtime.NumGoroutine" := by simpa using hname
  simp [callFunc, hf, h1, hb, mark]

theorem idxC_hit (p : Cur → Bool) : ∀ (L : List Cur) (j : Nat) (h : j < L.length), p L[j] = true → (∀ t (_ : t < j) (h' : t < L.length), p L[t] = false) → idxC p L = j
  | [], j, h, _, _ => absurd h (by simp)
  | c :: r, 0, _, h1, _ => by
    have h1 : p c = true := h1
    simp [idxC, h1]
  | c :: r, j + 1, h, h1, h2 => by
    have h0 : p c = false := h2 0 (by omega) (by simp)
    have hr := idxC_hit p r j (by simpa using h) h1 (fun t ht h' => h2 (t + 1) (by omega) (by simpa using h'))
    unfold idxC
    rw [h0, hr, if_neg (by simp), if_neg (by omega)]
    omega
theorem idxC_none (p : Cur → Bool) : ∀ (L : List Cur), (∀ t (h : t < L.length), p L[t] = false) → idxC p L = -1
  | [], _ => rfl
  | c :: r, h => by
    have h0 : p c = false := h 0 (by simp)
    have hr := idxC_none p r fun t h' => h (t + 1) (by simpa using h')
    unfold idxC
    rw [h0, hr, if_neg (by simp), if_pos (by omega)]
theorem idxC_cases (p : Cur → Bool) : ∀ (L : List Cur), (idxC p L = -1 ∧ ∀ t (h : t < L.length), p L[t] = false) ∨ ∃ (j : Nat) (h : j < L.length), idxC p L = j ∧ p L[j] = true ∧ ∀ t (_ : t < j) (h' : t < L.length), p L[t] = false
  | [] => .inl ⟨rfl, fun t h => absurd h (by simp)⟩
  | c :: r => by
    cases hc : p c with
    | true => exact .inr ⟨0, by simp, by simp [idxC, hc], hc, fun t h => absurd h (by omega)⟩
    | false =>
      rcases idxC_cases p r with ⟨h1, h2⟩ | ⟨j, h, h1, h2, h3⟩
      · left
        have hall : ∀ t (h : t < (c :: r).length), p (c :: r)[t] = false := fun t h => by
          match t, h with
          | 0, _ => exact hc
          | t + 1, h => exact h2 t (by simpa using h)
        exact ⟨idxC_none p _ hall, hall⟩
      · right
        have hall : ∀ t (_ : t < j + 1) (h' : t < (c :: r).length), p (c :: r)[t] = false := fun t ht h' => by
          match t, h' with
          | 0, _ => exact hc
          | t + 1, h' => exact h3 t (by omega) (by simpa using h')
        exact ⟨j + 1, by simpa using h, idxC_hit p _ _ (by simpa using h) h2 hall, h2, hall⟩

set_option maxHeartbeats 2000000 in
theorem index_func (a : Option Addr) (cap : Nat) (L : List Cur) (f : Nat) (caps : Array Value) (p : Cur → Bool) (w : World) (hR : RowC w a L) (hn : L.length ≤ 1000)
    (he : ∀ args w, (callFunc f args).run Try.prog w = .ok (.enter f args) w)
    (hf : ∀ (c : Cur) (W : World), Below w.heap.size w W → Calls Try.prog f (#[c.val] ++ caps) W fun e W' => e = .returned (.bool (p c)) ∧ Below W.heap.size W W') :
    Calls Try.prog 37 #[.slice a L.length cap, .func (.func f) #[] caps] w fun e w' => e = .returned (.int .i64 (idxC p L)) ∧ Below w.heap.size w w' := by
  have HR := hidp hR
  clear hR
  go_enter Try.func37, Try.ntmps37
  go_wp2
  go_loopw [8] (fun i wr => ∃ j : Nat, j ≤ L.length ∧ i = .int .i64 j ∧ Hid (∀ t (h : t < j) (h' : t < L.length), p L[t] = false) ∧ Below w.heap.size w wr) (fun i _ => L.length - (intOf i).toNat)
  case atStart => exact ⟨0, by omega, rfl, fun t h => absurd h (by omega), Below.refl _ _⟩
  case round =>
    obtain ⟨j, hj, rfl, HP, hB⟩ := hrel
    by_cases hlt : j < L.length
    · obtain ⟨g, o, rfl, hc⟩ := HR.out (by omega)
      have hcj := hc j hlt
      have l1 : (j : Int) < (L.length : Int) := by omega
      clear hc
      obtain ⟨c, hc⟩ : ∃ c, c = L[j] := ⟨_, rfl⟩
      rw [← hc] at hcj
      have HF := hidp (hf c wr hB)
      have HC := hidp hc
      have HJ : Hid (wr.rangeAt g (o + j * 16) c.cells) := fun i v hv => below_cell hB (Nat.le_refl _) _ _ (hcj i v hv)
      clear hc hcj
      have HFA := hidp hf
      clear hf
      go_wp2_with (first
        | (with_reducible refine wpList_load_mid rfl 34 (.tmp 14) rfl g (o + j * 16) rfl c.cells _ HJ.out Try.underlying34 rfl (by rw [Cur.len]; exact Try.info34) ?_))
      refine HF.out.mono ?_
      rintro e w1 ⟨rfl, hB1⟩
      have hB2 := hB.trans (hB1.mono hB.size)
      cases hpc : p c with
      | true =>
        have HI := hidp (idxC_hit p L j hlt (by rw [← HC.out]; exact hpc) HP.out)
        go_wp2
        go_ret
        exact ⟨by rw [HI.out]; rfl, hB2⟩
      | false =>
        go_wp2
        go_roundw
        case rel => exact ⟨j + 1, by omega, by go_num, fun t ht h' => by
          by_cases htj : t = j
          · subst htj; rw [← HC.out]; exact hpc
          · exact HP.out t (by omega) h', hB2⟩
        case measure => simp [intOf]; omega
    · have l1 : ¬ (j : Int) < (L.length : Int) := by omega
      have HI := hidp (idxC_none p L fun t h => HP.out t (by omega) h)
      go_wp2
      go_ret
      exact ⟨by rw [HI.out]; rfl, hB⟩

theorem flat_at : ∀ (L : List Cur) (i k : Nat) (h : i < L.length), k < 16 → (L.flatMap Cur.cells)[i * 16 + k]? = L[i].cells[k]?
  | [], _, _, h, _ => absurd h (by simp)
  | c :: r, 0, k, _, hk => by
    rw [List.flatMap_cons, List.getElem?_append_left (by rw [Cur.len]; omega), Nat.zero_mul, Nat.zero_add]
    rfl
  | c :: r, i + 1, k, h, hk => by
    rw [List.flatMap_cons, List.getElem?_append_right (by rw [Cur.len]; omega), Cur.len, show (i + 1) * 16 + k - 16 = i * 16 + k by omega]
    exact flat_at r i k (by simpa using h) hk
theorem flat_len : ∀ L : List Cur, (L.flatMap Cur.cells).length = L.length * 16
  | [] => rfl
  | c :: r => by rw [List.flatMap_cons, List.length_append, flat_len r, Cur.len, List.length_cons]; omega
theorem flat_one (L : List Cur) : ∀ u ∈ L.flatMap Cur.cells, u.oneCell' = true := by
  intro u hu
  obtain ⟨c, _, h⟩ := List.mem_flatMap.1 hu
  exact c.one u h

/-- a row of cursors of the call's own -/
def OutC (w : World) (base : Nat) (v : Value) (L : List Cur) : Prop := w.ownsRow base 34 16 v L.length (L.flatMap Cur.cells)
theorem OutC.row {w : World} {base : Nat} {v : Value} {L : List Cur} (h : OutC w base v L) : ∃ a cap, v = .slice a L.length cap ∧ RowC w a L := by
  have h' := h
  obtain ⟨_, ⟨hv, h0⟩ | ⟨g, cap, cur, hv, hg, hh, r⟩⟩ := h'
  · exact ⟨none, 0, by rw [hv, h0], fun hp => absurd hp (by omega)⟩
  · refine ⟨some ⟨g, 0, none⟩, cap, hv, fun _ => ⟨g, 0, rfl, fun i hi j u hu => ?_⟩⟩
    have hk : j < 16 := by have := (List.getElem?_eq_some_iff.1 hu).1; rwa [Cur.len] at this
    have hc := World.ownsRow.cells (g := g) h (by rw [hv]; rfl) (i * 16 + j) u (by rw [flat_at L i j hi hk]; exact hu)
    rw [Addr.add_mid] at hc
    rw [Nat.add_assoc]
    exact hc
end Go.Proofs.Ytkmhdffkganhaaa
