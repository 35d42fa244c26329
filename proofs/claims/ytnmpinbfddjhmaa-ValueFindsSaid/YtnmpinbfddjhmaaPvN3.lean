/- A part of the proof: functions of the program, walked, or what operations come to. -/
import Derived.Test.YtnmpinbfddjhmaaPvN2
import Derived.Lib.Bytealg
/-! ### Numbers in bytes of seven bits: plain laws -/
namespace Go.Pv
def hiB (n : Nat) : By := if h : n = 0 then [] else hiB (n / 128) ++ [UInt8.ofNat (128 + n % 128)]
def sev (n : Nat) : By := hiB (n / 128) ++ [UInt8.ofNat (n % 128)]
theorem hiB_zero : hiB 0 = [] := by rw [hiB, dif_pos rfl]
theorem hiB_pos (n : Nat) (h : n ≠ 0) : hiB n = hiB (n / 128) ++ [UInt8.ofNat (128 + n % 128)] := by rw [hiB, dif_neg h]
theorem hiB_len (n : Nat) : (hiB n).length ≤ n := by
  induction n using Nat.strongRecOn with
  | _ n ih =>
    by_cases h : n = 0
    · subst h; rw [hiB_zero]; simp
    · rw [hiB_pos n h, List.length_append]
      have := ih (n / 128) (by omega)
      simp; omega
/-- How many bytes there are ahead of the last one. -/
def cnt (n : Nat) : Nat := if h : n < 128 then 0 else cnt (n / 128) + 1
theorem cnt_small (n : Nat) (h : n < 128) : cnt n = 0 := by rw [cnt, dif_pos h]
theorem cnt_big (n : Nat) (h : ¬ n < 128) : cnt n = cnt (n / 128) + 1 := by rw [cnt, dif_neg h]
theorem div_pow_succ (n k : Nat) : n / 128 ^ (k + 1) = n / 128 / 128 ^ k := by rw [Nat.pow_succ, Nat.mul_comm, Nat.div_div_eq_div_mul]
theorem div_pow_succ' (n k : Nat) : n / 128 ^ (k + 1) = n / 128 ^ k / 128 := by rw [Nat.pow_succ, Nat.div_div_eq_div_mul]
theorem cnt_step (n : Nat) : ∀ k, k < cnt n → 128 ≤ n / 128 ^ k := by
  induction n using Nat.strongRecOn with
  | _ n ih =>
    intro k hk
    by_cases h : n < 128
    · rw [cnt_small n h] at hk; omega
    · rw [cnt_big n h] at hk
      cases k with
      | zero => simp; omega
      | succ k => rw [div_pow_succ]; exact ih (n / 128) (by omega) k (by omega)
theorem cnt_last (n : Nat) : n / 128 ^ cnt n < 128 := by
  induction n using Nat.strongRecOn with
  | _ n ih =>
    by_cases h : n < 128
    · rw [cnt_small n h]; simpa using h
    · rw [cnt_big n h, div_pow_succ]; exact ih (n / 128) (by omega)
theorem cnt_le (n : Nat) (h : n < 9223372036854775808) : cnt n ≤ 8 := by
  rcases Nat.lt_or_ge 8 (cnt n) with q | q
  · have := cnt_step n 8 q
    have e : (128 : Nat) ^ 8 = 72057594037927936 := by decide
    rw [e] at this; omega
  · exact q
theorem hi_last (n : Nat) : hiB (n / 128 ^ (cnt n + 1)) = [] := by
  rw [div_pow_succ', Nat.div_eq_of_lt (cnt_last n), hiB_zero]
theorem hi_step (n j : Nat) (h1 : 1 ≤ j) (h : j ≤ cnt n) : hiB (n / 128 ^ j) = hiB (n / 128 ^ (j + 1)) ++ [UInt8.ofNat (128 + n / 128 ^ j % 128)] := by
  have : n / 128 ^ j ≠ 0 := by
    obtain ⟨i, rfl⟩ : ∃ i, j = i + 1 := ⟨j - 1, by omega⟩
    have := cnt_step n i (by omega)
    rw [div_pow_succ']; omega
  rw [hiB_pos _ this, div_pow_succ']
theorem u8_or (z : Nat) : D.val (.int .u8 (IntKind.u8.wrap ((128 % 2 ^ IntKind.u8.bits ||| (IntKind.u8.wrap (z : Int) % 2 ^ IntKind.u8.bits).toNat : Nat) : Int))) = byD (UInt8.ofNat (128 + z % 128)) := by
  rw [byD, show (UInt8.ofNat (128 + z % 128)).toNat = 128 + z % 128 by simp; omega, show (128 % 2 ^ IntKind.u8.bits : Nat) = 128 by decide, show IntKind.u8.bits = 8 by rfl]
  congr 2
  have h1 : (IntKind.u8.wrap (z : Int) % 2 ^ 8).toNat = z % 256 := by simp [IntKind.wrap, IntKind.bits, IntKind.signed]; omega
  rw [h1]
  have h2 : ∀ m : Nat, m < 256 → 128 ||| m = 128 + m % 128 := by decide +kernel
  rw [h2 _ (by omega)]
  simp [IntKind.wrap, IntKind.bits, IntKind.signed]; omega
theorem u8_and (z : Nat) : D.val (.int .u8 (IntKind.u8.wrap (((IntKind.u8.wrap (z : Int) % 2 ^ IntKind.u8.bits).toNat &&& 127 % 2 ^ IntKind.u8.bits : Nat) : Int))) = byD (UInt8.ofNat (z % 128)) := by
  rw [byD, show (UInt8.ofNat (z % 128)).toNat = z % 128 by simp; omega, show (127 % 2 ^ IntKind.u8.bits : Nat) = 127 by decide, show IntKind.u8.bits = 8 by rfl]
  have h1 : (IntKind.u8.wrap (z : Int) % 2 ^ 8).toNat = z % 256 := by simp [IntKind.wrap, IntKind.bits, IntKind.signed]; omega
  rw [h1]
  have h2 : ∀ m : Nat, m < 256 → m &&& 127 = m % 128 := by decide +kernel
  rw [h2 _ (by omega)]
  congr 2
  simp [IntKind.wrap, IntKind.bits, IntKind.signed]; omega
theorem shr7 (n k q : Nat) (h : n / 128 ^ k = q) (hk : k ≤ 9) : (n : Int).fdiv (2 ^ min (7 * (k : Int)).toNat IntKind.i64.bits) = (q : Int) := by
  have e1 : (7 * (k : Int)).toNat = 7 * k := by omega
  have e2 : min (7 * k) IntKind.i64.bits = 7 * k := Nat.min_eq_left (by show 7 * k ≤ 64; omega)
  rw [e1, e2, Int.fdiv_eq_ediv_of_nonneg _ (by exact Int.le_of_lt (Int.pow_pos (by decide)))]
  rw [← h, show (128 : Nat) = 2 ^ 7 by rfl, ← Nat.pow_mul]
  simp
end Go.Pv
/-! ### Parts of a text, as the library finds them -/
namespace Go.Pv
@[simp] theorem nn1 (n : Nat) : (0 ≤ (n : Int) + 1) = True := eq_true (by omega)
@[simp] theorem nlt1 (n : Nat) : ((n : Int) < (n : Int) + 1) = True := eq_true (by omega)
@[simp] theorem nlt0 (n : Nat) : ((n : Int) < 0) = False := eq_false (by omega)
theorem flat_single (l : List D) (h : ∀ d ∈ l, cellsD d = [d]) : flat l = l := by
  induction l with
  | nil => rfl
  | cons a l ih => rw [flat_cons, h a (by simp), ih (fun d hd => h d (by simp [hd]))]; rfl
theorem pure_vals {α : Type} (f : α → Value) (g e : Nat) (L : List α) : Pure (.slice g e (L.map fun x => D.val (f x))) := .slice _ _ _ fun d hd => by
  rw [flat_single _ (fun d hd => by obtain ⟨s, _, rfl⟩ := List.mem_map.1 hd; rfl)] at hd
  obtain ⟨s, _, rfl⟩ := List.mem_map.1 hd
  exact .val _
theorem pure_strs (g e : Nat) (L : List By) : Pure (.slice g e (L.map sD)) := pure_vals (fun s : By => .string ⟨s.toArray⟩) g e L
theorem indexByte_at (c : UInt8) : ∀ (p r : By), c ∉ p → Lib.indexByte (p ++ c :: r) c = (p.length : Int)
  | [], r, _ => by simp [Lib.indexByte]
  | a :: p, r, h => by
    have h1 : (a == c) = false := by
      rw [beq_eq_false_iff_ne]; exact fun e => h (by simp [e])
    have h2 := indexByte_at c p r (fun q => h (by simp [q]))
    have h3 : ((p.length : Int) == -1) = false := by rw [beq_eq_false_iff_ne]; omega
    rw [List.cons_append, Lib.indexByte, h1, h2, h3]
    simp
theorem indexByte_none (c : UInt8) : ∀ (p : By), c ∉ p → Lib.indexByte p c = -1
  | [], _ => rfl
  | a :: p, h => by
    have h1 : (a == c) = false := by
      rw [beq_eq_false_iff_ne]; exact fun e => h (by simp [e])
    have h2 := indexByte_none c p (fun q => h (by simp [q]))
    rw [Lib.indexByte, h1, h2]
    rfl
theorem splitB_len (c : UInt8) : ∀ l : By, (splitB c l).length = l.count c + 1
  | [] => rfl
  | x :: l => by
    have ih := splitB_len c l
    simp only [splitB]
    by_cases h : x = c
    · subst h; simp [ih]
    · rw [if_neg h, List.count_cons_of_ne (fun e => h e)]
      cases hs : splitB c l with
      | nil => exact absurd hs (splitB_ne _ _)
      | cons p ps => rw [hs] at ih; simpa using ih
theorem splitB_two (c : UInt8) : ∀ (l : By) (p q : By) (ps : List By), splitB c l = p :: q :: ps → ∃ r, l = p ++ c :: r ∧ c ∉ p ∧ splitB c r = q :: ps
  | [], p, q, ps, h => by simp [splitB] at h
  | x :: l, p, q, ps, h => by
    simp only [splitB] at h
    by_cases hx : x = c
    · rw [if_pos hx] at h
      simp only [List.cons.injEq] at h
      exact ⟨l, by rw [hx, ← h.1]; rfl, by rw [← h.1]; simp, h.2⟩
    · rw [if_neg hx] at h
      cases hs : splitB c l with
      | nil => exact absurd hs (splitB_ne _ _)
      | cons p2 ps2 =>
        rw [hs] at h
        simp only [List.cons.injEq] at h
        obtain ⟨rfl, rfl⟩ := h
        obtain ⟨r, h1, h2, h3⟩ := splitB_two c l p2 q ps hs
        refine ⟨r, by rw [h1]; rfl, fun hm => ?_, h3⟩
        rcases List.mem_cons.1 hm with e | e
        · exact hx e.symm
        · exact h2 e
theorem splitB_one (c : UInt8) : ∀ (l p : By), splitB c l = [p] → l = p
  | l, p, h => by have := join_split c l; rw [h] at this; exact this.symm
theorem splitB_snoc (c : UInt8) (x : UInt8) : ∀ l : By, splitB c (l ++ [x]) = if x = c then splitB c l ++ [[]] else (splitB c l).dropLast ++ [(splitB c l).getLast (splitB_ne c l) ++ [x]]
  | [] => by by_cases h : x = c <;> simp [splitB, h]
  | a :: l => by
    have ih := splitB_snoc c x l
    by_cases h : x = c
    · rw [if_pos h] at ih ⊢
      by_cases ha : a = c
      · simp [splitB, ha, ih]
      · cases hs : splitB c l with
        | nil => exact absurd hs (splitB_ne _ _)
        | cons p ps => simp [splitB, ha, ih, hs]
    · rw [if_neg h] at ih ⊢
      by_cases ha : a = c
      · have hn := splitB_ne c l
        simp only [List.cons_append, splitB, if_pos ha, ih]
        rw [List.dropLast_cons_of_ne_nil hn, List.getLast_cons hn]; rfl
      · cases hs : splitB c l with
        | nil => exact absurd hs (splitB_ne _ _)
        | cons p ps =>
          simp only [hs] at ih
          cases ps with
          | nil => simp at ih; simp [splitB, ha, ih, hs]
          | cons q ps => simp at ih; simp [splitB, ha, ih, hs]
end Go.Pv
/-! ### Identifiers of objects: plain laws -/
namespace Go.Pv
@[simp] theorem setIn_by (c : UInt8) (d : D) : setIn (byD c) 0 [d] = d := rfl
def natD (n : Nat) : D := .val (.int .i64 (n : Nat))
def okP (p : By) : Bool := (readDigits p).isSome && decide (p.length ≤ 10)
def arcOk (L : List Nat) : Bool := match L with
  | a :: b :: r => decide (r.length ≤ 14) && decide (a ≤ 2) && (decide (2 ≤ a) || decide (b < 40))
  | _ => false
def arcsM (l : By) : Option (List Nat) := if (splitB 46 l).all okP = true then (if arcOk ((splitB 46 l).map digVal) = true then some ((splitB 46 l).map digVal) else none) else none
theorem okP_read {p : By} (h : okP p = true) : readDigits p = some (digVal p) ∧ p.length ≤ 10 ∧ digVal p < 10000000000 := by
  simp only [okP, Bool.and_eq_true, decide_eq_true_eq] at h
  have h1 : readDigits p = some (digVal p) := by
    unfold readDigits at h ⊢
    split
    · rfl
    · rename_i q; rw [if_neg q] at h; cases h.1
  refine ⟨h1, h.2, ?_⟩
  have := readDigits_lt h1
  exact Nat.lt_of_lt_of_le this (Nat.pow_le_pow_right (n := 10) (by decide) h.2)
theorem okP_not {p : By} (h : okP p = false) (h2 : p.length ≤ 10) : readDigits p = none := by
  simp only [okP, Bool.and_eq_false_iff, decide_eq_false_iff_not] at h
  rcases h with h | h
  · cases hr : readDigits p with
    | none => rfl
    | some n => rw [hr] at h; cases h
  · exact absurd h2 h
theorem sev_len (n : Nat) (h : n < 9223372036854775808) : (sev n).length ≤ 9 := by
  have key : ∀ m, (hiB (m / 128)).length = cnt m := by
    intro m
    induction m using Nat.strongRecOn with
    | _ m ih =>
      by_cases q : m < 128
      · rw [cnt_small m q, Nat.div_eq_of_lt q, hiB_zero]; rfl
      · rw [cnt_big m q, hiB_pos _ (by omega), List.length_append, ih (m / 128) (by omega)]; rfl
  have := cnt_le n h
  rw [sev, List.length_append, key n]
  simp; omega
theorem sev_ne (n : Nat) : sev n ≠ [] := by simp [sev]
/-- The bytes of an identifier's numbers. -/
def enc : List Nat → By
  | a :: b :: r => sev (a * 40 + b) ++ r.flatMap sev
  | _ => []
def putM (l : By) : Option By := (arcsM l).map enc
/-! Two ends of a row changed for each other. -/
def swapped {α : Type} (B : List α) (z : α) (j : Nat) : List α := (List.range B.length).map fun p => if p < j ∨ B.length ≤ p + j then B.getD (B.length - 1 - p) z else B.getD p z
theorem swapped_len {α : Type} (B : List α) (z : α) (j : Nat) : (swapped B z j).length = B.length := by simp [swapped]
theorem swapped_get {α : Type} (B : List α) (z : α) (j p : Nat) (h : p < B.length) : (swapped B z j)[p]? = some (if p < j ∨ B.length ≤ p + j then B.getD (B.length - 1 - p) z else B.getD p z) := by
  simp [swapped, h]
theorem swapped_zero {α : Type} (B : List α) (z : α) : swapped B z 0 = B := by
  apply List.ext_getElem?
  intro p
  by_cases h : p < B.length
  · rw [swapped_get B z 0 p h, if_neg (by omega), List.getD, List.getElem?_eq_getElem h]; rfl
  · rw [List.getElem?_eq_none (by rw [swapped_len]; omega), List.getElem?_eq_none (by omega)]
theorem swapped_all {α : Type} (B : List α) (z : α) (j : Nat) (h : B.length ≤ 2 * j + 1) : swapped B z j = B.reverse := by
  apply List.ext_getElem?
  intro p
  by_cases hp : p < B.length
  · rw [swapped_get B z j p hp, List.getElem?_reverse hp]
    split
    · rw [List.getD, List.getElem?_eq_getElem (by omega)]; rfl
    · rename_i q
      have : B.length - 1 - p = p := by omega
      rw [this, List.getD, List.getElem?_eq_getElem hp]; rfl
  · rw [List.getElem?_eq_none (by rw [swapped_len]; omega), List.getElem?_eq_none (by simp; omega)]
theorem swapped_step {α : Type} (B : List α) (z : α) (j : Nat) (h : 2 * j + 1 < B.length) : ((swapped B z j).set j (B.getD (B.length - 1 - j) z)).set (B.length - 1 - j) (B.getD j z) = swapped B z (j + 1) := by
  apply List.ext_getElem?
  intro p
  by_cases hp : p < B.length
  · rw [swapped_get B z (j + 1) p hp, List.getElem?_set, List.getElem?_set]
    simp only [List.length_set, swapped_len]
    by_cases h1 : B.length - 1 - j = p
    · rw [if_pos h1, if_pos (by omega), if_pos (by omega)]
      congr 2; omega
    · rw [if_neg h1]
      by_cases h2 : j = p
      · rw [if_pos h2, if_pos (by omega), if_pos (by omega)]
        congr 2; omega
      · rw [if_neg h2, swapped_get B z j p hp]
        by_cases h3 : p < j ∨ B.length ≤ p + j
        · rw [if_pos h3, if_pos (by omega)]
        · rw [if_neg h3, if_neg (by omega)]
  · rw [List.getElem?_eq_none (by simp [swapped_len]; omega), List.getElem?_eq_none (by rw [swapped_len]; omega)]
theorem swapped_lo {α : Type} (B : List α) (z : α) (j : Nat) (h : 2 * j + 1 < B.length) : (swapped B z j)[j]? = some (B.getD j z) := by
  rw [swapped_get B z j j (by omega), if_neg (by omega)]
theorem swapped_hi {α : Type} (B : List α) (z : α) (j : Nat) (h : 2 * j + 1 < B.length) : (swapped B z j)[B.length - 1 - j]? = some (B.getD (B.length - 1 - j) z) := by
  rw [swapped_get B z j _ (by omega), if_neg (by omega)]
/-- The digits of a number, the last one first. -/
def lows (n : Nat) : Nat → By
  | 0 => []
  | k + 1 => lows n k ++ [UInt8.ofNat (48 + n / 10 ^ k % 10)]
theorem div_ten_succ (n k : Nat) : n / 10 ^ (k + 1) = n / 10 ^ k / 10 := by rw [Nat.pow_succ, Nat.div_div_eq_div_mul]
theorem lows_len (n k : Nat) : (lows n k).length = k := by induction k with
  | zero => rfl
  | succ k ih => rw [lows, List.length_append, ih]; rfl
theorem digits_lows (n : Nat) : ∀ k, (∀ j, j < k → 10 ≤ n / 10 ^ j) → digits n = digits (n / 10 ^ k) ++ (lows n k).reverse
  | 0, _ => by simp [lows]
  | k + 1, h => by
    rw [digits_lows n k (fun j hj => h j (by omega)), digits_ge _ (by have := h k (by omega); omega), div_ten_succ, lows, List.reverse_append]
    simp
/-- How many digits a number has ahead of its first one. -/
def dl (n : Nat) : Nat := if h : n < 10 then 0 else dl (n / 10) + 1
theorem dl_small (n : Nat) (h : n < 10) : dl n = 0 := by rw [dl, dif_pos h]
theorem dl_big (n : Nat) (h : ¬ n < 10) : dl n = dl (n / 10) + 1 := by rw [dl, dif_neg h]
theorem div_ten_first (n k : Nat) : n / 10 ^ (k + 1) = n / 10 / 10 ^ k := by rw [Nat.pow_succ, Nat.mul_comm, Nat.div_div_eq_div_mul]
theorem dl_step (n : Nat) : ∀ k, k < dl n → 10 ≤ n / 10 ^ k := by
  induction n using Nat.strongRecOn with
  | _ n ih =>
    intro k hk
    by_cases h : n < 10
    · rw [dl_small n h] at hk; omega
    · rw [dl_big n h] at hk
      cases k with
      | zero => simp; omega
      | succ k => rw [div_ten_first]; exact ih (n / 10) (by omega) k (by omega)
theorem dl_last (n : Nat) : n / 10 ^ dl n < 10 := by
  induction n using Nat.strongRecOn with
  | _ n ih =>
    by_cases h : n < 10
    · rw [dl_small n h]; simpa using h
    · rw [dl_big n h, div_ten_first]; exact ih (n / 10) (by omega)
theorem dl_le (n : Nat) (h : n < 9223372036854775808) : dl n ≤ 18 := by
  rcases Nat.lt_or_ge 18 (dl n) with q | q
  · have := dl_step n 18 q
    have e : (10 : Nat) ^ 18 = 1000000000000000000 := by decide
    rw [e] at this; omega
  · exact q
theorem digits_rev (n : Nat) : digits n = (lows n (dl n + 1)).reverse := by
  rw [digits_lows n (dl n) (dl_step n), lows, List.reverse_append, digits_lt _ (dl_last n), Nat.mod_eq_of_lt (dl_last n)]
  rfl
end Go.Pv
