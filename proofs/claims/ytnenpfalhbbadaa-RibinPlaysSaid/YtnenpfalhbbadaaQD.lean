/- differ: what is told of a prefix by two trees. -/
import Derived.Test.YtnenpfalhbbadaaPI
import Derived.Test.YtnenpfalhbbadaaQS
import Derived.Test.YtnenpfalhbbadaaFlow
namespace Go.Proofs.Ytnenpfalhbbadaa
open Go.RowKit

def Sg.key (s : Sg) : Int × List Int := (s.kind, s.nums)
def Rw.key (r : Rw) : Int × Int × List Int := (r.flags, r.type, r.bytes)
/-- what two attributes must share to be the same -/
def sameA (a b : Att) : Bool := decide (a.segs.map Sg.key = b.segs.map Sg.key) && decide (a.comms = b.comms) && decide (a.raws.map Rw.key = b.raws.map Rw.key) && (a.origin == b.origin) && (a.next == b.next) && (a.med == b.med) && (a.pref == b.pref) && (a.atomic == b.atomic) && (a.hasAggr == b.hasAggr) && (a.aas == b.aas) && (a.aad == b.aad)
/-- something else is told -/
def otherA (A B : Ab) (p : Pf) : Bool := (getA A p).2 != (getA B p).2 || ((getA B p).2 && !sameA (getA A p).1 (getA B p).1)
def Same45 : Prop := ∀ (a b : Att) (W : World), a.at W → b.at W → Calls Try.prog 45 #[a.val, b.val] W fun e w' => e = .returned (.bool (sameA a b)) ∧ Below W.heap.size W w'

theorem enters_fn {f : FuncId} {fn : Func} {c : Code} (hf : Try.prog.funcs[f]? = some fn) (hname : (fn.name == "runtime.NumGoroutine") = false) (hb : fn.body = some c) (args : Array Value) (w : World) :
    (callFunc f args).run Try.prog w = .ok (.enter f args) w := by
  have h1 : fn.name ≠ "runtime.NumGoroutine" := by simpa using hname
  simp [callFunc, hf, h1, hb]

section
variable {P : Program} {ops : Array Oper} {rest : List Oper} {o : Oper} {a : Act} {w : World} {Q : Exit → Act → World → Prop}
theorem wpList_wanted (hw : Region.wanted o (yielded ops a.tmps) = true) (h : ∀ K : Act → World → Prop, (∀ a w, wpList P ops Q rest a w → K a w) → o.wp P a w K Q) : wpList P ops Q (o :: rest) a w :=
  wpList_step fun K hK => by rw [if_pos hw]; exact h K hK
/-- a guarded operation loads a whole row -/
theorem wpList_load_row_w (hw : Region.wanted o (yielded ops a.tmps) = true) (ty : TypeId) (x : Operand) (ho : o.op = .load ty x)
    (g : Nat) (hx : a.eval x = .pointer (some ⟨g, 0, none⟩)) (t : TypeId) (cs : Array Value) (fr : Nat × Nat) (d : TypeDesc) (hg : w.heap[g]? = some (.cells cs t fr))
    (hu : P.underlying ty = some d) (hd : (match d with | .struct _ | .array _ _ => true | _ => false) = true) (hi : (P.info? ty).map (·.size) = some cs.size)
    (h : wpList P ops Q rest (a.put o.dst (.agg cs)) w) : wpList P ops Q (o :: rest) a w :=
  wpList_wanted hw fun _ hK => wp_load_row ty x ho g hx t cs fr d hg hu hd hi (hK _ _ h)
end
structure OJ (wA w : World) (bo bn : Nat) (tO tN : Tr) (nO nN : Int) (co cn : Nat) (p : Pf) (W : World) : Prop where
  bel : Below w.heap.size w W
  old : TrieAt wA W bo tO nO
  now : TrieAt wA W bn tN nN
  c1 : W.cell? ⟨co, 0, none⟩ = some (.pointer (some ⟨bo, 0, none⟩))
  c2 : W.cell? ⟨cn, 0, none⟩ = some (.pointer (some ⟨bn, 0, none⟩))
  wA : Below wA.heap.size wA W
theorem OJ.below {wA w W W' : World} {bo bn : Nat} {tO tN : Tr} {nO nN : Int} {co cn : Nat} {p : Pf} (h : OJ wA w bo bn tO tN nO nN co cn p W) (hB : Below W.heap.size W W') : OJ wA w bo bn tO tN nO nN co cn p W' :=
  ⟨h.bel.trans (hB.mono h.bel.size), h.old.below hB, h.now.below hB, below_cell hB (Nat.le_refl _) _ _ h.c1, below_cell hB (Nat.le_refl _) _ _ h.c2, h.wA.trans (hB.mono h.wA.size)⟩

set_option maxRecDepth 100000 in
set_option maxHeartbeats 4000000 in
theorem other_any (H45 : Same45) (wA : World) (bo bn : Nat) (tO tN : Tr) (nO nN : Int) (co cn : Nat) (p : Pf) (hp : p.ok) (w : World) (hO : TrieAt wA w bo tO nO) (hN : TrieAt wA w bn tN nN)
    (hco : w.cell? ⟨co, 0, none⟩ = some (.pointer (some ⟨bo, 0, none⟩))) (hcn : w.cell? ⟨cn, 0, none⟩ = some (.pointer (some ⟨bn, 0, none⟩))) (hwA : Below wA.heap.size wA w) :
    Calls Try.prog 44 #[p.val, .pointer (some ⟨co, 0, none⟩), .pointer (some ⟨cn, 0, none⟩)] w fun e w' => e = .returned (.bool (otherA tO.ab tN.ab p)) ∧ Below w.heap.size w w' := by
  have hb := (Below.refl w.heap.size w).alloc (Nat.le_refl _) (.cells #[.int .u32 (p.a : Int), .int .i64 p.l] 44)
  have h0 : OJ wA w bo bn tO tN nO nN co cn p (w.alloc (.cells #[.int .u32 (p.a : Int), .int .i64 p.l] 44)) := ⟨hb, hO.below hb, hN.below hb, below_cell hb (Nat.le_refl _) _ _ hco, below_cell hb (Nat.le_refl _) _ _ hcn, hwA.trans (hb.mono hwA.size)⟩
  have k0 := heap_alloc_new w (.cells #[.int .u32 (p.a : Int), .int .i64 p.l] 44)
  obtain ⟨a1, ok1, hg1⟩ : ∃ a ok, getT tO p = (a, ok) := ⟨_, _, rfl⟩
  obtain ⟨a2, ok2, hg2⟩ : ∃ a ok, getT tN p = (a, ok) := ⟨_, _, rfl⟩
  have HR := hidp (show otherA tO.ab tN.ab p = (ok1 != ok2 || (ok2 && !sameA a1 a2)) by unfold otherA; rw [← getT_ab, ← getT_ab, hg1, hg2])
  have HA1 := hidp (show a1.at wA by have := getT_at hO.tree p; rw [hg1] at this; exact this)
  have HA2 := hidp (show a2.at wA by have := getT_at hN.tree p; rw [hg2] at this; exact this)
  have HG1 := hidp (fun W h => tget_any wA bo tO nO p hp W h)
  have HG2 := hidp (fun W h => tget_any wA bn tN nN p hp W h)
  have h1v : a1.val = .agg a1.cells.toArray := rfl
  have h2v : a2.val = .agg a2.cells.toArray := rfl
  have hpv : p.val = .agg #[.int .u32 (p.a : Int), .int .i64 p.l] := rfl
  have H := hidp (H45 a1 a2)
  rw [hg1, h1v, hpv] at HG1
  rw [hg2, h2v, hpv] at HG2
  rw [h1v, h2v] at H
  rw [hpv]
  have hi1 : Hid ((Try.prog.info? 37).map (·.size) = some a1.cells.toArray.size) := Try.info37
  have hi2 : Hid ((Try.prog.info? 37).map (·.size) = some a2.cells.toArray.size) := Try.info37
  have H0 := hidp h0
  have K0 := hidp k0
  clear hb h0 k0 hO hN hco hcn hwA hg1 hg2 h1v h2v hpv H45
  go_enter Try.func44, Try.ntmps44
  go_upto_region 1 with (fail)
  change Code.wp Try.prog _ _ _ (w.alloc (.cells #[.int .u32 (p.a : Int), .int .i64 p.l] 44))
  generalize w.alloc (.cells #[.int .u32 (p.a : Int), .int .i64 p.l] 44) = w0 at *
  have c1 := H0.out.c1
  have d0 := cellOf K0.out 0 (v := .int .u32 (p.a : Int)) rfl
  have d1 := cellOf K0.out 1 (v := .int .i64 p.l) rfl
  go_upto_region 2 with (first
    | (go_at_call 30; refine (HG1.out _ H0.out.old).mono ?_; rintro e w1 ⟨rfl, B1⟩
       have H1 := hidp (H0.out.below B1)
       have K1 := hidp (heap_below B1 K0.out (ltOf K0.out))
       clear B1 c1 d0 d1)
    | (with_reducible refine wpList_store_row rfl 37 (.tmp 5) (.tmp 13) rfl w1.heap.size a1.cells.toArray rfl rfl 37 _ (heap_alloc_new _ _) hi1.out rfl a1.all_one ?_
       rw [alloc_fill _ rfl]))
  have hb2 := (Below.refl w1.heap.size w1).alloc (Nat.le_refl _) (.cells a1.cells.toArray 37)
  have H2 := hidp (H1.out.below hb2)
  have K2 := hidp (heap_below hb2 K1.out (ltOf K1.out))
  have KA := hidp (heap_alloc_new w1 (.cells a1.cells.toArray 37))
  clear hb2
  change Code.wp Try.prog _ _ _ (w1.alloc (.cells a1.cells.toArray 37))
  generalize w1.alloc (.cells a1.cells.toArray 37) = w2 at *
  have c2 := H2.out.c2
  have d0 := cellOf K2.out 0 (v := .int .u32 (p.a : Int)) rfl
  have d1 := cellOf K2.out 1 (v := .int .i64 p.l) rfl
  go_upto_region 3 with (first
    | (go_at_call 30; refine (HG2.out _ H2.out.now).mono ?_; rintro e w3 ⟨rfl, B3⟩
       have H3 := hidp (H2.out.below B3)
       have KA3 := hidp (heap_below B3 KA.out (ltOf KA.out))
       clear B3 c2 d0 d1)
    | (with_reducible refine wpList_store_row rfl 37 (.tmp 7) (.tmp 19) rfl w3.heap.size a2.cells.toArray rfl rfl 37 _ (heap_alloc_new _ _) hi2.out rfl a2.all_one ?_
       rw [alloc_fill _ rfl]))
  have hb4 := (Below.refl w3.heap.size w3).alloc (Nat.le_refl _) (.cells a2.cells.toArray 37)
  have H4 := hidp (H3.out.below hb4)
  have KA4 := hidp (heap_below hb4 KA3.out (ltOf KA3.out))
  have KB4 := hidp (heap_alloc_new w3 (.cells a2.cells.toArray 37))
  clear hb4
  change Code.wp Try.prog _ _ _ (w3.alloc (.cells a2.cells.toArray 37))
  generalize w3.alloc (.cells a2.cells.toArray 37) = w4 at *
  cases ok1 with
  | false =>
    cases ok2 with
    | false => go_wp2; go_ret; exact ⟨by rw [HR.out]; rfl, H4.out.bel⟩
    | true => go_wp2; go_ret; exact ⟨by rw [HR.out]; rfl, H4.out.bel⟩
  | true =>
    cases ok2 with
    | false => go_wp2; go_ret; exact ⟨by rw [HR.out]; rfl, H4.out.bel⟩
    | true =>
      go_wp2_with (first
        | (go_at_call 45; refine (H.out _ (HA1.out.below H4.out.wA) (HA2.out.below H4.out.wA)).mono ?_; rintro e w5 ⟨rfl, B5⟩
           have H5 := hidp (H4.out.below B5)
           clear B5)
        | (with_reducible refine wpList_load_row_w (by kernel_rfl) 37 (.tmp 5) rfl w1.heap.size rfl 37 a1.cells.toArray (0, 0) _ KA4.out Try.underlying37 rfl hi1.out ?_)
        | (with_reducible refine wpList_load_row_w (by kernel_rfl) 37 (.tmp 7) rfl w3.heap.size rfl 37 a2.cells.toArray (0, 0) _ KB4.out Try.underlying37 rfl hi2.out ?_))
      go_ret
      exact ⟨by rw [HR.out]; simp, H5.out.bel⟩
end Go.Proofs.Ytnenpfalhbbadaa
