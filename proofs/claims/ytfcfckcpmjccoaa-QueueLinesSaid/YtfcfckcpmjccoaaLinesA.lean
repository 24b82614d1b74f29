/- For the law QueueLines: strings as numbers; lines one behind the other; where the first one ends. No program in sight but the conversions. -/
import Derived.Test.YtfcfckcpmjccoaaQA
import Derived.Laws.IdiomStrings
namespace Go.Proofs.Ytfcfckcpmjccoaa
open Go.RowKit

def nums (s : ByteArray) : List Int := s.data.toList.map fun b => (b.toNat : Int)
theorem nums_length (s : ByteArray) : (nums s).length = s.size := by
  unfold nums
  rw [List.length_map]
  rfl
theorem nums_append (a b : ByteArray) : nums (a ++ b) = nums a ++ nums b := by
  unfold nums
  rw [ByteArray.data_append, Array.toList_append, List.map_append]
theorem nums_rng (s : ByteArray) : ∀ x ∈ nums s, 0 ≤ x ∧ x ≤ 255 := by
  intro x hx
  obtain ⟨b, _, rfl⟩ := List.mem_map.1 hx
  have := b.toNat_lt
  omega
theorem str_nums (s : ByteArray) : strOfNums (nums s) = s := by
  obtain ⟨a⟩ := s
  unfold strOfNums nums
  congr 1
  rw [List.map_map]
  have : ((fun n : Int => UInt8.ofNat n.toNat) ∘ fun b : UInt8 => (b.toNat : Int)) = id := by
    funext b
    simp
  rw [this, List.map_id]
theorem nums_mk (a : Array UInt8) : nums ⟨a⟩ = a.toList.map fun b => (b.toNat : Int) := rfl

/-- the first j lines, each with its end -/
def linesTo (S : Nat → ByteArray) : Nat → ByteArray
  | 0 => ⟨#[]⟩
  | j + 1 => linesTo S j ++ S j ++ ⟨#[10]⟩
def farTo : Nat → ByteArray
  | 0 => ⟨#[]⟩
  | j + 1 => farTo j ++ ⟨#[120]⟩
theorem farTo_nums : ∀ m, nums (farTo m) = List.replicate m 120
  | 0 => rfl
  | m + 1 => by
    rw [farTo, nums_append, farTo_nums m, List.replicate_succ']
    rfl
theorem linesTo_nums (S : Nat → ByteArray) (j : Nat) : nums (linesTo S (j + 1)) = nums (linesTo S j) ++ nums (S j) ++ [10] := by
  rw [linesTo, nums_append, nums_append]
  rfl
theorem linesTo_size (S : Nat → ByteArray) (j : Nat) : (linesTo S (j + 1)).size = (linesTo S j).size + (S j).size + 1 := by
  rw [← nums_length, linesTo_nums, List.length_append, List.length_append, nums_length, nums_length]
  rfl
theorem linesTo_le (S : Nat → ByteArray) : ∀ n, (∀ i, i < n → (S i).size ≤ 20) → (linesTo S n).size ≤ 21 * n
  | 0, _ => Nat.le_refl _
  | n + 1, h => by
    rw [linesTo_size]
    have := linesTo_le S n fun i hi => h i (by omega)
    have := h n (by omega)
    omega
/-- what is left behind j of n lines -/
def leftL (S : Nat → ByteArray) (n j : Nat) (F : List Int) : List Int := (nums (linesTo S n) ++ F).drop (linesTo S j).size
theorem leftL_zero (S : Nat → ByteArray) (n : Nat) (F : List Int) : leftL S n 0 F = nums (linesTo S n) ++ F := rfl
theorem leftL_end (S : Nat → ByteArray) (n : Nat) (F : List Int) : leftL S n n F = F := by
  unfold leftL
  rw [← nums_length, List.drop_left]
theorem linesTo_split (S : Nat → ByteArray) (j : Nat) : ∀ n, j < n → ∃ mid, nums (linesTo S n) = nums (linesTo S j) ++ (nums (S j) ++ 10 :: mid)
  | 0, h => absurd h (by omega)
  | n + 1, h => by
    rw [linesTo_nums]
    by_cases hj : j = n
    · subst hj
      exact ⟨[], by simp⟩
    · obtain ⟨mid, hm⟩ := linesTo_split S j n (by omega)
      exact ⟨mid ++ nums (S n) ++ [10], by rw [hm]; simp⟩
theorem leftL_at (S : Nat → ByteArray) (n j : Nat) (F : List Int) (hj : j < n) : ∃ r, leftL S n j F = nums (S j) ++ 10 :: r ∧ leftL S n (j + 1) F = r := by
  obtain ⟨mid, hm⟩ := linesTo_split S j n hj
  refine ⟨mid ++ F, ?_, ?_⟩
  · unfold leftL
    rw [hm, ← nums_length, List.append_assoc, List.drop_left]
    simp
  · unfold leftL
    rw [hm, linesTo_size, ← nums_length, ← nums_length]
    have : nums (linesTo S j) ++ (nums (S j) ++ 10 :: mid) ++ F = (nums (linesTo S j) ++ nums (S j) ++ [10]) ++ (mid ++ F) := by simp
    rw [this]
    have hl : (nums (linesTo S j)).length + (nums (S j)).length + 1 = (nums (linesTo S j) ++ nums (S j) ++ [10]).length := by simp; omega
    rw [hl, List.drop_left]
theorem nlAt_app : ∀ (a r : List Int), (∀ x ∈ a, x ≠ 10) → nlAt (a ++ 10 :: r) = some a.length
  | [], _, _ => rfl
  | x :: a, r, h => by
    show (if x = 10 then some 0 else (nlAt (a ++ 10 :: r)).map (· + 1)) = _
    rw [if_neg (h x (.head _)), nlAt_app a r fun y hy => h y (.tail _ hy)]
    rfl
theorem nlAt_rep : ∀ m, nlAt (List.replicate m 120) = none
  | 0 => rfl
  | m + 1 => by
    show (if (120 : Int) = 10 then some 0 else (nlAt (List.replicate m 120)).map (· + 1)) = _
    rw [if_neg (by decide), nlAt_rep m]
    rfl
/-- the line j of n, taken -/
theorem left_line (S : Nat → ByteArray) (n j : Nat) (F : List Int) (hj : j < n) (hS : ∀ x ∈ nums (S j), x ≠ 10) :
    nlAt (leftL S n j F) = some (S j).size ∧ (leftL S n j F).take (S j).size = nums (S j) ∧ (leftL S n j F).drop ((S j).size + 1) = leftL S n (j + 1) F := by
  obtain ⟨r, h1, h2⟩ := leftL_at S n j F hj
  rw [h1, h2]
  refine ⟨by rw [nlAt_app _ _ hS, nums_length], by rw [← nums_length, List.take_left], ?_⟩
  rw [← nums_length]
  have : nums (S j) ++ 10 :: r = (nums (S j) ++ [10]) ++ r := by simp
  rw [this, show (nums (S j)).length + 1 = (nums (S j) ++ [10]).length by simp, List.drop_left]
end Go.Proofs.Ytfcfckcpmjccoaa
