/- A cursor as plain data: its sixteen cells, its value; the closures that ask it. -/
import Derived.Test.YtkmhdffkganhaaaRows
import Derived.Test.YtkmhdffkganhaaaBase
import Derived.Test.YtkmhdffkganhaaaApp
import Derived.Deep.QuietTactic
import Derived.BigQuiet
import Derived.Deep.Cut
namespace Go.Proofs.Ytkmhdffkganhaaa
open Go.RowKit

structure Cur where
  id : Int
  owner : Int
  ver : Int
  kind : Int
  mode : Int
  pa : Int
  pl : Int
  tab : Int
  peer : Int
  rx : ByteArray
  ca : Option Addr
  cl : Nat
  cc : Nat
  cur : Int
  out : Bool
  aa : Int
  al : Int
  age : Int
def Cur.cells (c : Cur) : List Value := [.int .i64 c.id, .int .i64 c.owner, .int .i64 c.ver, .int .i64 c.kind, .int .i64 c.mode, .int .u32 c.pa, .int .i64 c.pl, .int .i64 c.tab, .int .i64 c.peer, .string c.rx, .slice c.ca c.cl c.cc, .int .i64 c.cur, .bool c.out, .int .u32 c.aa, .int .i64 c.al, .int .i64 c.age]
def Cur.val (c : Cur) : Value := .agg c.cells.toArray
theorem Cur.len (c : Cur) : c.cells.length = 16 := rfl
theorem Cur.one (c : Cur) : ∀ u ∈ c.cells, u.oneCell' = true := by
  intro u hu
  simp only [Cur.cells, List.mem_cons, List.not_mem_nil, or_false] at hu
  rcases hu with rfl | rfl | rfl | rfl | rfl | rfl | rfl | rfl | rfl | rfl | rfl | rfl | rfl | rfl | rfl | rfl <;> rfl

theorem cl29 (c : Cur) (b : Nat) (x : Int) (w : World) (h : w.cell? ⟨b, 0, none⟩ = some (.int .i64 x)) :
    Calls Try.prog 29 #[c.val, .pointer (some ⟨b, 0, none⟩)] w fun e w' => e = .returned (.bool (c.id == x)) ∧ Below w.heap.size w w' := by
  have hb := World.block_lt_of_cell? w _ h
  unfold Cur.val Cur.cells
  go_enter Try.func29, Try.ntmps29
  go_wp2
  go_ret
  exact ⟨rfl, by go_grown⟩
theorem cl33 (c : Cur) (b : Nat) (x : Int) (w : World) (h : w.cell? ⟨b, 0, none⟩ = some (.int .i64 x)) :
    Calls Try.prog 33 #[c.val, .pointer (some ⟨b, 0, none⟩)] w fun e w' => e = .returned (.bool (c.id == x)) ∧ Below w.heap.size w w' := by
  have hb := World.block_lt_of_cell? w _ h
  unfold Cur.val Cur.cells
  go_enter Try.func33, Try.ntmps33
  go_wp2
  go_ret
  exact ⟨rfl, by go_grown⟩
theorem cl34 (c : Cur) (b : Nat) (x : Int) (w : World) (h : w.cell? ⟨b, 0, none⟩ = some (.int .i64 x)) :
    Calls Try.prog 34 #[c.val, .pointer (some ⟨b, 0, none⟩)] w fun e w' => e = .returned (.bool (c.owner == x)) ∧ Below w.heap.size w w' := by
  have hb := World.block_lt_of_cell? w _ h
  unfold Cur.val Cur.cells
  go_enter Try.func34, Try.ntmps34
  go_wp2
  go_ret
  exact ⟨rfl, by go_grown⟩
theorem cl38 (c : Cur) (b b' : Nat) (x y : Int) (w : World) (h : w.cell? ⟨b, 0, none⟩ = some (.int .i64 x)) (h' : w.cell? ⟨b', 0, none⟩ = some (.int .i64 y)) :
    Calls Try.prog 38 #[c.val, .pointer (some ⟨b, 0, none⟩), .pointer (some ⟨b', 0, none⟩)] w fun e w' => e = .returned (.bool (c.id == x && c.owner == y)) ∧ Below w.heap.size w w' := by
  have hb := World.block_lt_of_cell? w _ h
  have hb' := World.block_lt_of_cell? w _ h'
  unfold Cur.val Cur.cells
  by_cases hx : c.id = x
  · have e1 : (c.id == x) = true := by rw [hx]; exact beq_self_eq_true x
    go_enter Try.func38, Try.ntmps38
    go_wp2
    go_ret
    exact ⟨by first | rfl | (rw [e1]; rfl), by go_grown⟩
  · have e1 : (c.id == x) = false := by rw [beq_eq_false_iff_ne]; exact hx
    go_enter Try.func38, Try.ntmps38
    go_wp2
    go_ret
    exact ⟨rfl, by go_grown⟩
theorem cl30 (c : Cur) (b t : Nat) (life : Int) (w : World) (h : w.cell? ⟨b, 0, none⟩ = some (.pointer (some ⟨t, 0, none⟩))) (h' : w.cell? ⟨t, 1, none⟩ = some (.int .i64 life)) :
    Calls Try.prog 30 #[c.val, .pointer (some ⟨b, 0, none⟩)] w fun e w' => e = .returned (.bool (decide (life ≤ c.age))) ∧ Below w.heap.size w w' := by
  have hb := World.block_lt_of_cell? w _ h
  have hb' := World.block_lt_of_cell? w _ h'
  unfold Cur.val Cur.cells
  go_enter Try.func30, Try.ntmps30
  go_wp2
  go_quiet (fail)
  go_wp2
  go_ret
  exact ⟨rfl, below_drewN (by go_grown) _⟩
end Go.Proofs.Ytkmhdffkganhaaa
