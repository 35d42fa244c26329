/- A part of the proof: functions of the program, walked, or what operations come to. -/
import Derived.Test.YtaglagcanhiemaaDoorPvN4
/-! ### Identifiers of objects: plain laws -/
namespace Go.Pv
@[simp] theorem setIn_by (c : UInt8) (d : D) : setIn (byD c) 0 [d] = d := rfl
def natD (n : Nat) : D := .val (.int .i64 (n : Nat))
def okP (p : By) : Bool := (readDigits p).isSome && decide (p.length ≤ 10)
def arcOk (L : List Nat) : Bool := match L with
  | a :: b :: r => decide (r.length ≤ 14) && decide (a ≤ 2) && (decide (2 ≤ a) || decide (b < 40))
  | _ => false
def arcsM (l : By) : Option (List Nat) := if (splitB 46 l).all okP = true then (if arcOk ((splitB 46 l).map digVal) = true then some ((splitB 46 l).map digVal) else none) else none
theorem okP_read {p : By} (h : okP p = true) : readDigits p = some (digVal p) ∧ p.length ≤ 10 ∧ digVal p < 10000000000 := by
  simp only [okP, Bool.and_eq_true, decide_eq_true_eq] at h
  have h1 : readDigits p = some (digVal p) := by
    unfold readDigits at h ⊢
    split
    · rfl
    · rename_i q; rw [if_neg q] at h; cases h.1
  refine ⟨h1, h.2, ?_⟩
  have := readDigits_lt h1
  exact Nat.lt_of_lt_of_le this (Nat.pow_le_pow_right (n := 10) (by decide) h.2)
theorem okP_not {p : By} (h : okP p = false) (h2 : p.length ≤ 10) : readDigits p = none := by
  simp only [okP, Bool.and_eq_false_iff, decide_eq_false_iff_not] at h
  rcases h with h | h
  · cases hr : readDigits p with
    | none => rfl
    | some n => rw [hr] at h; cases h
  · exact absurd h2 h
theorem sev_len (n : Nat) (h : n < 9223372036854775808) : (sev n).length ≤ 9 := by
  have key : ∀ m, (hiB (m / 128)).length = cnt m := by
    intro m
    induction m using Nat.strongRecOn with
    | _ m ih =>
      by_cases q : m < 128
      · rw [cnt_small m q, Nat.div_eq_of_lt q, hiB_zero]; rfl
      · rw [cnt_big m q, hiB_pos _ (by omega), List.length_append, ih (m / 128) (by omega)]; rfl
  have := cnt_le n h
  rw [sev, List.length_append, key n]
  simp; omega
theorem sev_ne (n : Nat) : sev n ≠ [] := by simp [sev]
/-- The bytes of an identifier's numbers. -/
def enc : List Nat → By
  | a :: b :: r => sev (a * 40 + b) ++ r.flatMap sev
  | _ => []
def putM (l : By) : Option By := (arcsM l).map enc
/-! Two ends of a row changed for each other. -/
def swapped {α : Type} (B : List α) (z : α) (j : Nat) : List α := (List.range B.length).map fun p => if p < j ∨ B.length ≤ p + j then B.getD (B.length - 1 - p) z else B.getD p z
theorem swapped_len {α : Type} (B : List α) (z : α) (j : Nat) : (swapped B z j).length = B.length := by simp [swapped]
theorem swapped_get {α : Type} (B : List α) (z : α) (j p : Nat) (h : p < B.length) : (swapped B z j)[p]? = some (if p < j ∨ B.length ≤ p + j then B.getD (B.length - 1 - p) z else B.getD p z) := by
  simp [swapped, h]
theorem swapped_zero {α : Type} (B : List α) (z : α) : swapped B z 0 = B := by
  apply List.ext_getElem?
  intro p
  by_cases h : p < B.length
  · rw [swapped_get B z 0 p h, if_neg (by omega), List.getD, List.getElem?_eq_getElem h]; rfl
  · rw [List.getElem?_eq_none (by rw [swapped_len]; omega), List.getElem?_eq_none (by omega)]
theorem swapped_all {α : Type} (B : List α) (z : α) (j : Nat) (h : B.length ≤ 2 * j + 1) : swapped B z j = B.reverse := by
  apply List.ext_getElem?
  intro p
  by_cases hp : p < B.length
  · rw [swapped_get B z j p hp, List.getElem?_reverse hp]
    split
    · rw [List.getD, List.getElem?_eq_getElem (by omega)]; rfl
    · rename_i q
      have : B.length - 1 - p = p := by omega
      rw [this, List.getD, List.getElem?_eq_getElem hp]; rfl
  · rw [List.getElem?_eq_none (by rw [swapped_len]; omega), List.getElem?_eq_none (by simp; omega)]
theorem swapped_step {α : Type} (B : List α) (z : α) (j : Nat) (h : 2 * j + 1 < B.length) : ((swapped B z j).set j (B.getD (B.length - 1 - j) z)).set (B.length - 1 - j) (B.getD j z) = swapped B z (j + 1) := by
  apply List.ext_getElem?
  intro p
  by_cases hp : p < B.length
  · rw [swapped_get B z (j + 1) p hp, List.getElem?_set, List.getElem?_set]
    simp only [List.length_set, swapped_len]
    by_cases h1 : B.length - 1 - j = p
    · rw [if_pos h1, if_pos (by omega), if_pos (by omega)]
      congr 2; omega
    · rw [if_neg h1]
      by_cases h2 : j = p
      · rw [if_pos h2, if_pos (by omega), if_pos (by omega)]
        congr 2; omega
      · rw [if_neg h2, swapped_get B z j p hp]
        by_cases h3 : p < j ∨ B.length ≤ p + j
        · rw [if_pos h3, if_pos (by omega)]
        · rw [if_neg h3, if_neg (by omega)]
  · rw [List.getElem?_eq_none (by simp [swapped_len]; omega), List.getElem?_eq_none (by rw [swapped_len]; omega)]
theorem swapped_lo {α : Type} (B : List α) (z : α) (j : Nat) (h : 2 * j + 1 < B.length) : (swapped B z j)[j]? = some (B.getD j z) := by
  rw [swapped_get B z j j (by omega), if_neg (by omega)]
theorem swapped_hi {α : Type} (B : List α) (z : α) (j : Nat) (h : 2 * j + 1 < B.length) : (swapped B z j)[B.length - 1 - j]? = some (B.getD (B.length - 1 - j) z) := by
  rw [swapped_get B z j _ (by omega), if_neg (by omega)]
/-- The digits of a number, the last one first. -/
def lows (n : Nat) : Nat → By
  | 0 => []
  | k + 1 => lows n k ++ [UInt8.ofNat (48 + n / 10 ^ k % 10)]
theorem div_ten_succ (n k : Nat) : n / 10 ^ (k + 1) = n / 10 ^ k / 10 := by rw [Nat.pow_succ, Nat.div_div_eq_div_mul]
theorem lows_len (n k : Nat) : (lows n k).length = k := by induction k with
  | zero => rfl
  | succ k ih => rw [lows, List.length_append, ih]; rfl
theorem digits_lows (n : Nat) : ∀ k, (∀ j, j < k → 10 ≤ n / 10 ^ j) → digits n = digits (n / 10 ^ k) ++ (lows n k).reverse
  | 0, _ => by simp [lows]
  | k + 1, h => by
    rw [digits_lows n k (fun j hj => h j (by omega)), digits_ge _ (by have := h k (by omega); omega), div_ten_succ, lows, List.reverse_append]
    simp
/-- How many digits a number has ahead of its first one. -/
def dl (n : Nat) : Nat := if h : n < 10 then 0 else dl (n / 10) + 1
theorem dl_small (n : Nat) (h : n < 10) : dl n = 0 := by rw [dl, dif_pos h]
theorem dl_big (n : Nat) (h : ¬ n < 10) : dl n = dl (n / 10) + 1 := by rw [dl, dif_neg h]
theorem div_ten_first (n k : Nat) : n / 10 ^ (k + 1) = n / 10 / 10 ^ k := by rw [Nat.pow_succ, Nat.mul_comm, Nat.div_div_eq_div_mul]
theorem dl_step (n : Nat) : ∀ k, k < dl n → 10 ≤ n / 10 ^ k := by
  induction n using Nat.strongRecOn with
  | _ n ih =>
    intro k hk
    by_cases h : n < 10
    · rw [dl_small n h] at hk; omega
    · rw [dl_big n h] at hk
      cases k with
      | zero => simp; omega
      | succ k => rw [div_ten_first]; exact ih (n / 10) (by omega) k (by omega)
theorem dl_last (n : Nat) : n / 10 ^ dl n < 10 := by
  induction n using Nat.strongRecOn with
  | _ n ih =>
    by_cases h : n < 10
    · rw [dl_small n h]; simpa using h
    · rw [dl_big n h, div_ten_first]; exact ih (n / 10) (by omega)
theorem dl_le (n : Nat) (h : n < 9223372036854775808) : dl n ≤ 18 := by
  rcases Nat.lt_or_ge 18 (dl n) with q | q
  · have := dl_step n 18 q
    have e : (10 : Nat) ^ 18 = 1000000000000000000 := by decide
    rw [e] at this; omega
  · exact q
theorem digits_rev (n : Nat) : digits n = (lows n (dl n + 1)).reverse := by
  rw [digits_lows n (dl n) (dl_step n), lows, List.reverse_append, digits_lt _ (dl_last n), Nat.mod_eq_of_lt (dl_last n)]
  rfl
end Go.Pv
