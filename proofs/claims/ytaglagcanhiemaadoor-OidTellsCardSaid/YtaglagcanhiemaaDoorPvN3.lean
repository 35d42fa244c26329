/- A part of the proof: functions of the program, walked, or what operations come to. -/
import Derived.Test.YtaglagcanhiemaaDoorPvN2
/-! ### Numbers in bytes of seven bits: plain laws -/
namespace Go.Pv
def hiB (n : Nat) : By := if h : n = 0 then [] else hiB (n / 128) ++ [UInt8.ofNat (128 + n % 128)]
def sev (n : Nat) : By := hiB (n / 128) ++ [UInt8.ofNat (n % 128)]
theorem hiB_zero : hiB 0 = [] := by rw [hiB, dif_pos rfl]
theorem hiB_pos (n : Nat) (h : n ≠ 0) : hiB n = hiB (n / 128) ++ [UInt8.ofNat (128 + n % 128)] := by rw [hiB, dif_neg h]
theorem hiB_len (n : Nat) : (hiB n).length ≤ n := by
  induction n using Nat.strongRecOn with
  | _ n ih =>
    by_cases h : n = 0
    · subst h; rw [hiB_zero]; simp
    · rw [hiB_pos n h, List.length_append]
      have := ih (n / 128) (by omega)
      simp; omega
/-- How many bytes there are ahead of the last one. -/
def cnt (n : Nat) : Nat := if h : n < 128 then 0 else cnt (n / 128) + 1
theorem cnt_small (n : Nat) (h : n < 128) : cnt n = 0 := by rw [cnt, dif_pos h]
theorem cnt_big (n : Nat) (h : ¬ n < 128) : cnt n = cnt (n / 128) + 1 := by rw [cnt, dif_neg h]
theorem div_pow_succ (n k : Nat) : n / 128 ^ (k + 1) = n / 128 / 128 ^ k := by rw [Nat.pow_succ, Nat.mul_comm, Nat.div_div_eq_div_mul]
theorem div_pow_succ' (n k : Nat) : n / 128 ^ (k + 1) = n / 128 ^ k / 128 := by rw [Nat.pow_succ, Nat.div_div_eq_div_mul]
theorem cnt_step (n : Nat) : ∀ k, k < cnt n → 128 ≤ n / 128 ^ k := by
  induction n using Nat.strongRecOn with
  | _ n ih =>
    intro k hk
    by_cases h : n < 128
    · rw [cnt_small n h] at hk; omega
    · rw [cnt_big n h] at hk
      cases k with
      | zero => simp; omega
      | succ k => rw [div_pow_succ]; exact ih (n / 128) (by omega) k (by omega)
theorem cnt_last (n : Nat) : n / 128 ^ cnt n < 128 := by
  induction n using Nat.strongRecOn with
  | _ n ih =>
    by_cases h : n < 128
    · rw [cnt_small n h]; simpa using h
    · rw [cnt_big n h, div_pow_succ]; exact ih (n / 128) (by omega)
theorem cnt_le (n : Nat) (h : n < 9223372036854775808) : cnt n ≤ 8 := by
  rcases Nat.lt_or_ge 8 (cnt n) with q | q
  · have := cnt_step n 8 q
    have e : (128 : Nat) ^ 8 = 72057594037927936 := by decide
    rw [e] at this; omega
  · exact q
theorem hi_last (n : Nat) : hiB (n / 128 ^ (cnt n + 1)) = [] := by
  rw [div_pow_succ', Nat.div_eq_of_lt (cnt_last n), hiB_zero]
theorem hi_step (n j : Nat) (h1 : 1 ≤ j) (h : j ≤ cnt n) : hiB (n / 128 ^ j) = hiB (n / 128 ^ (j + 1)) ++ [UInt8.ofNat (128 + n / 128 ^ j % 128)] := by
  have : n / 128 ^ j ≠ 0 := by
    obtain ⟨i, rfl⟩ : ∃ i, j = i + 1 := ⟨j - 1, by omega⟩
    have := cnt_step n i (by omega)
    rw [div_pow_succ']; omega
  rw [hiB_pos _ this, div_pow_succ']
theorem u8_or (z : Nat) : D.val (.int .u8 (IntKind.u8.wrap ((128 % 2 ^ IntKind.u8.bits ||| (IntKind.u8.wrap (z : Int) % 2 ^ IntKind.u8.bits).toNat : Nat) : Int))) = byD (UInt8.ofNat (128 + z % 128)) := by
  rw [byD, show (UInt8.ofNat (128 + z % 128)).toNat = 128 + z % 128 by simp; omega, show (128 % 2 ^ IntKind.u8.bits : Nat) = 128 by decide, show IntKind.u8.bits = 8 by rfl]
  congr 2
  have h1 : (IntKind.u8.wrap (z : Int) % 2 ^ 8).toNat = z % 256 := by simp [IntKind.wrap, IntKind.bits, IntKind.signed]; omega
  rw [h1]
  have h2 : ∀ m : Nat, m < 256 → 128 ||| m = 128 + m % 128 := by decide +kernel
  rw [h2 _ (by omega)]
  simp [IntKind.wrap, IntKind.bits, IntKind.signed]; omega
theorem u8_and (z : Nat) : D.val (.int .u8 (IntKind.u8.wrap (((IntKind.u8.wrap (z : Int) % 2 ^ IntKind.u8.bits).toNat &&& 127 % 2 ^ IntKind.u8.bits : Nat) : Int))) = byD (UInt8.ofNat (z % 128)) := by
  rw [byD, show (UInt8.ofNat (z % 128)).toNat = z % 128 by simp; omega, show (127 % 2 ^ IntKind.u8.bits : Nat) = 127 by decide, show IntKind.u8.bits = 8 by rfl]
  have h1 : (IntKind.u8.wrap (z : Int) % 2 ^ 8).toNat = z % 256 := by simp [IntKind.wrap, IntKind.bits, IntKind.signed]; omega
  rw [h1]
  have h2 : ∀ m : Nat, m < 256 → m &&& 127 = m % 128 := by decide +kernel
  rw [h2 _ (by omega)]
  congr 2
  simp [IntKind.wrap, IntKind.bits, IntKind.signed]; omega
theorem shr7 (n k q : Nat) (h : n / 128 ^ k = q) (hk : k ≤ 9) : (n : Int).fdiv (2 ^ min (7 * (k : Int)).toNat IntKind.i64.bits) = (q : Int) := by
  have e1 : (7 * (k : Int)).toNat = 7 * k := by omega
  have e2 : min (7 * k) IntKind.i64.bits = 7 * k := Nat.min_eq_left (by show 7 * k ≤ 64; omega)
  rw [e1, e2, Int.fdiv_eq_ediv_of_nonneg _ (by exact Int.le_of_lt (Int.pow_pos (by decide)))]
  rw [← h, show (128 : Nat) = 2 ^ 7 by rfl, ← Nat.pow_mul]
  simp
end Go.Pv
