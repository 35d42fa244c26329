/- A part of the proof: functions of the program, walked, or what operations come to. -/
import Derived.Test.YtaglagcanhiemaaDoorPvN1
import Derived.Lib.Bytealg
import Derived.Lib.Join
/-! ### Numbers in bytes of seven bits: plain laws -/
namespace Go.Pv
def hiB (n : Nat) : By := if h : n = 0 then [] else hiB (n / 128) ++ [UInt8.ofNat (128 + n % 128)]
def sev (n : Nat) : By := hiB (n / 128) ++ [UInt8.ofNat (n % 128)]
theorem hiB_zero : hiB 0 = [] := by rw [hiB, dif_pos rfl]
theorem hiB_pos (n : Nat) (h : n ≠ 0) : hiB n = hiB (n / 128) ++ [UInt8.ofNat (128 + n % 128)] := by rw [hiB, dif_neg h]
theorem hiB_len (n : Nat) : (hiB n).length ≤ n := by
  induction n using Nat.strongRecOn with
  | _ n ih =>
    by_cases h : n = 0
    · subst h; rw [hiB_zero]; simp
    · rw [hiB_pos n h, List.length_append]
      have := ih (n / 128) (by omega)
      simp; omega
/-- How many bytes there are ahead of the last one. -/
def cnt (n : Nat) : Nat := if h : n < 128 then 0 else cnt (n / 128) + 1
theorem cnt_small (n : Nat) (h : n < 128) : cnt n = 0 := by rw [cnt, dif_pos h]
theorem cnt_big (n : Nat) (h : ¬ n < 128) : cnt n = cnt (n / 128) + 1 := by rw [cnt, dif_neg h]
theorem div_pow_succ (n k : Nat) : n / 128 ^ (k + 1) = n / 128 / 128 ^ k := by rw [Nat.pow_succ, Nat.mul_comm, Nat.div_div_eq_div_mul]
theorem div_pow_succ' (n k : Nat) : n / 128 ^ (k + 1) = n / 128 ^ k / 128 := by rw [Nat.pow_succ, Nat.div_div_eq_div_mul]
theorem cnt_step (n : Nat) : ∀ k, k < cnt n → 128 ≤ n / 128 ^ k := by
  induction n using Nat.strongRecOn with
  | _ n ih =>
    intro k hk
    by_cases h : n < 128
    · rw [cnt_small n h] at hk; omega
    · rw [cnt_big n h] at hk
      cases k with
      | zero => simp; omega
      | succ k => rw [div_pow_succ]; exact ih (n / 128) (by omega) k (by omega)
theorem cnt_last (n : Nat) : n / 128 ^ cnt n < 128 := by
  induction n using Nat.strongRecOn with
  | _ n ih =>
    by_cases h : n < 128
    · rw [cnt_small n h]; simpa using h
    · rw [cnt_big n h, div_pow_succ]; exact ih (n / 128) (by omega)
theorem cnt_le (n : Nat) (h : n < 9223372036854775808) : cnt n ≤ 8 := by
  rcases Nat.lt_or_ge 8 (cnt n) with q | q
  · have := cnt_step n 8 q
    have e : (128 : Nat) ^ 8 = 72057594037927936 := by decide
    rw [e] at this; omega
  · exact q
theorem hi_last (n : Nat) : hiB (n / 128 ^ (cnt n + 1)) = [] := by
  rw [div_pow_succ', Nat.div_eq_of_lt (cnt_last n), hiB_zero]
theorem hi_step (n j : Nat) (h1 : 1 ≤ j) (h : j ≤ cnt n) : hiB (n / 128 ^ j) = hiB (n / 128 ^ (j + 1)) ++ [UInt8.ofNat (128 + n / 128 ^ j % 128)] := by
  have : n / 128 ^ j ≠ 0 := by
    obtain ⟨i, rfl⟩ : ∃ i, j = i + 1 := ⟨j - 1, by omega⟩
    have := cnt_step n i (by omega)
    rw [div_pow_succ']; omega
  rw [hiB_pos _ this, div_pow_succ']
theorem u8_or (z : Nat) : D.val (.int .u8 (IntKind.u8.wrap ((128 % 2 ^ IntKind.u8.bits ||| (IntKind.u8.wrap (z : Int) % 2 ^ IntKind.u8.bits).toNat : Nat) : Int))) = byD (UInt8.ofNat (128 + z % 128)) := by
  rw [byD, show (UInt8.ofNat (128 + z % 128)).toNat = 128 + z % 128 by simp; omega, show (128 % 2 ^ IntKind.u8.bits : Nat) = 128 by decide, show IntKind.u8.bits = 8 by rfl]
  congr 2
  have h1 : (IntKind.u8.wrap (z : Int) % 2 ^ 8).toNat = z % 256 := by simp [IntKind.wrap, IntKind.bits, IntKind.signed]; omega
  rw [h1]
  have h2 : ∀ m : Nat, m < 256 → 128 ||| m = 128 + m % 128 := by decide +kernel
  rw [h2 _ (by omega)]
  simp [IntKind.wrap, IntKind.bits, IntKind.signed]; omega
theorem u8_and (z : Nat) : D.val (.int .u8 (IntKind.u8.wrap (((IntKind.u8.wrap (z : Int) % 2 ^ IntKind.u8.bits).toNat &&& 127 % 2 ^ IntKind.u8.bits : Nat) : Int))) = byD (UInt8.ofNat (z % 128)) := by
  rw [byD, show (UInt8.ofNat (z % 128)).toNat = z % 128 by simp; omega, show (127 % 2 ^ IntKind.u8.bits : Nat) = 127 by decide, show IntKind.u8.bits = 8 by rfl]
  have h1 : (IntKind.u8.wrap (z : Int) % 2 ^ 8).toNat = z % 256 := by simp [IntKind.wrap, IntKind.bits, IntKind.signed]; omega
  rw [h1]
  have h2 : ∀ m : Nat, m < 256 → m &&& 127 = m % 128 := by decide +kernel
  rw [h2 _ (by omega)]
  congr 2
  simp [IntKind.wrap, IntKind.bits, IntKind.signed]; omega
theorem shr7 (n k q : Nat) (h : n / 128 ^ k = q) (hk : k ≤ 9) : (n : Int).fdiv (2 ^ min (7 * (k : Int)).toNat IntKind.i64.bits) = (q : Int) := by
  have e1 : (7 * (k : Int)).toNat = 7 * k := by omega
  have e2 : min (7 * k) IntKind.i64.bits = 7 * k := Nat.min_eq_left (by show 7 * k ≤ 64; omega)
  rw [e1, e2, Int.fdiv_eq_ediv_of_nonneg _ (by exact Int.le_of_lt (Int.pow_pos (by decide)))]
  rw [← h, show (128 : Nat) = 2 ^ 7 by rfl, ← Nat.pow_mul]
  simp
end Go.Pv
/-! ### Parts of a text, as the library finds them -/
namespace Go.Pv
@[simp] theorem nn1 (n : Nat) : (0 ≤ (n : Int) + 1) = True := eq_true (by omega)
@[simp] theorem nlt1 (n : Nat) : ((n : Int) < (n : Int) + 1) = True := eq_true (by omega)
@[simp] theorem nlt0 (n : Nat) : ((n : Int) < 0) = False := eq_false (by omega)
theorem flat_single (l : List D) (h : ∀ d ∈ l, cellsD d = [d]) : flat l = l := by
  induction l with
  | nil => rfl
  | cons a l ih => rw [flat_cons, h a (by simp), ih (fun d hd => h d (by simp [hd]))]; rfl
theorem pure_vals {α : Type} (f : α → Value) (g e : Nat) (L : List α) : Pure (.slice g e (L.map fun x => D.val (f x))) := .slice _ _ _ fun d hd => by
  rw [flat_single _ (fun d hd => by obtain ⟨s, _, rfl⟩ := List.mem_map.1 hd; rfl)] at hd
  obtain ⟨s, _, rfl⟩ := List.mem_map.1 hd
  exact .val _
theorem pure_strs (g e : Nat) (L : List By) : Pure (.slice g e (L.map sD)) := pure_vals (fun s : By => .string ⟨s.toArray⟩) g e L
theorem indexByte_at (c : UInt8) : ∀ (p r : By), c ∉ p → Lib.indexByte (p ++ c :: r) c = (p.length : Int)
  | [], r, _ => by simp [Lib.indexByte]
  | a :: p, r, h => by
    have h1 : (a == c) = false := by
      rw [beq_eq_false_iff_ne]; exact fun e => h (by simp [e])
    have h2 := indexByte_at c p r (fun q => h (by simp [q]))
    have h3 : ((p.length : Int) == -1) = false := by rw [beq_eq_false_iff_ne]; omega
    rw [List.cons_append, Lib.indexByte, h1, h2, h3]
    simp
theorem indexByte_none (c : UInt8) : ∀ (p : By), c ∉ p → Lib.indexByte p c = -1
  | [], _ => rfl
  | a :: p, h => by
    have h1 : (a == c) = false := by
      rw [beq_eq_false_iff_ne]; exact fun e => h (by simp [e])
    have h2 := indexByte_none c p (fun q => h (by simp [q]))
    rw [Lib.indexByte, h1, h2]
    rfl
theorem splitB_len (c : UInt8) : ∀ l : By, (splitB c l).length = l.count c + 1
  | [] => rfl
  | x :: l => by
    have ih := splitB_len c l
    simp only [splitB]
    by_cases h : x = c
    · subst h; simp [ih]
    · rw [if_neg h, List.count_cons_of_ne (fun e => h e)]
      cases hs : splitB c l with
      | nil => exact absurd hs (splitB_ne _ _)
      | cons p ps => rw [hs] at ih; simpa using ih
theorem splitB_two (c : UInt8) : ∀ (l : By) (p q : By) (ps : List By), splitB c l = p :: q :: ps → ∃ r, l = p ++ c :: r ∧ c ∉ p ∧ splitB c r = q :: ps
  | [], p, q, ps, h => by simp [splitB] at h
  | x :: l, p, q, ps, h => by
    simp only [splitB] at h
    by_cases hx : x = c
    · rw [if_pos hx] at h
      simp only [List.cons.injEq] at h
      exact ⟨l, by rw [hx, ← h.1]; rfl, by rw [← h.1]; simp, h.2⟩
    · rw [if_neg hx] at h
      cases hs : splitB c l with
      | nil => exact absurd hs (splitB_ne _ _)
      | cons p2 ps2 =>
        rw [hs] at h
        simp only [List.cons.injEq] at h
        obtain ⟨rfl, rfl⟩ := h
        obtain ⟨r, h1, h2, h3⟩ := splitB_two c l p2 q ps hs
        refine ⟨r, by rw [h1]; rfl, fun hm => ?_, h3⟩
        rcases List.mem_cons.1 hm with e | e
        · exact hx e.symm
        · exact h2 e
theorem splitB_one (c : UInt8) : ∀ (l p : By), splitB c l = [p] → l = p
  | l, p, h => by have := join_split c l; rw [h] at this; exact this.symm
theorem splitB_snoc (c : UInt8) (x : UInt8) : ∀ l : By, splitB c (l ++ [x]) = if x = c then splitB c l ++ [[]] else (splitB c l).dropLast ++ [(splitB c l).getLast (splitB_ne c l) ++ [x]]
  | [] => by by_cases h : x = c <;> simp [splitB, h]
  | a :: l => by
    have ih := splitB_snoc c x l
    by_cases h : x = c
    · rw [if_pos h] at ih ⊢
      by_cases ha : a = c
      · simp [splitB, ha, ih]
      · cases hs : splitB c l with
        | nil => exact absurd hs (splitB_ne _ _)
        | cons p ps => simp [splitB, ha, ih, hs]
    · rw [if_neg h] at ih ⊢
      by_cases ha : a = c
      · have hn := splitB_ne c l
        simp only [List.cons_append, splitB, if_pos ha, ih]
        rw [List.dropLast_cons_of_ne_nil hn, List.getLast_cons hn]; rfl
      · cases hs : splitB c l with
        | nil => exact absurd hs (splitB_ne _ _)
        | cons p ps =>
          simp only [hs] at ih
          cases ps with
          | nil => simp at ih; simp [splitB, ha, ih, hs]
          | cons q ps => simp at ih; simp [splitB, ha, ih, hs]
end Go.Pv
/-! ### Identifiers of objects: plain laws -/
namespace Go.Pv
@[simp] theorem setIn_by (c : UInt8) (d : D) : setIn (byD c) 0 [d] = d := rfl
def natD (n : Nat) : D := .val (.int .i64 (n : Nat))
def okP (p : By) : Bool := (readDigits p).isSome && decide (p.length ≤ 10)
def arcOk (L : List Nat) : Bool := match L with
  | a :: b :: r => decide (r.length ≤ 14) && decide (a ≤ 2) && (decide (2 ≤ a) || decide (b < 40))
  | _ => false
def arcsM (l : By) : Option (List Nat) := if (splitB 46 l).all okP = true then (if arcOk ((splitB 46 l).map digVal) = true then some ((splitB 46 l).map digVal) else none) else none
theorem okP_read {p : By} (h : okP p = true) : readDigits p = some (digVal p) ∧ p.length ≤ 10 ∧ digVal p < 10000000000 := by
  simp only [okP, Bool.and_eq_true, decide_eq_true_eq] at h
  have h1 : readDigits p = some (digVal p) := by
    unfold readDigits at h ⊢
    split
    · rfl
    · rename_i q; rw [if_neg q] at h; cases h.1
  refine ⟨h1, h.2, ?_⟩
  have := readDigits_lt h1
  exact Nat.lt_of_lt_of_le this (Nat.pow_le_pow_right (n := 10) (by decide) h.2)
theorem okP_not {p : By} (h : okP p = false) (h2 : p.length ≤ 10) : readDigits p = none := by
  simp only [okP, Bool.and_eq_false_iff, decide_eq_false_iff_not] at h
  rcases h with h | h
  · cases hr : readDigits p with
    | none => rfl
    | some n => rw [hr] at h; cases h
  · exact absurd h2 h
theorem sev_len (n : Nat) (h : n < 9223372036854775808) : (sev n).length ≤ 9 := by
  have key : ∀ m, (hiB (m / 128)).length = cnt m := by
    intro m
    induction m using Nat.strongRecOn with
    | _ m ih =>
      by_cases q : m < 128
      · rw [cnt_small m q, Nat.div_eq_of_lt q, hiB_zero]; rfl
      · rw [cnt_big m q, hiB_pos _ (by omega), List.length_append, ih (m / 128) (by omega)]; rfl
  have := cnt_le n h
  rw [sev, List.length_append, key n]
  simp; omega
theorem sev_ne (n : Nat) : sev n ≠ [] := by simp [sev]
/-- The bytes of an identifier's numbers. -/
def enc : List Nat → By
  | a :: b :: r => sev (a * 40 + b) ++ r.flatMap sev
  | _ => []
def putM (l : By) : Option By := (arcsM l).map enc
/-! Two ends of a row changed for each other. -/
def swapped {α : Type} (B : List α) (z : α) (j : Nat) : List α := (List.range B.length).map fun p => if p < j ∨ B.length ≤ p + j then B.getD (B.length - 1 - p) z else B.getD p z
theorem swapped_len {α : Type} (B : List α) (z : α) (j : Nat) : (swapped B z j).length = B.length := by simp [swapped]
theorem swapped_get {α : Type} (B : List α) (z : α) (j p : Nat) (h : p < B.length) : (swapped B z j)[p]? = some (if p < j ∨ B.length ≤ p + j then B.getD (B.length - 1 - p) z else B.getD p z) := by
  simp [swapped, h]
theorem swapped_zero {α : Type} (B : List α) (z : α) : swapped B z 0 = B := by
  apply List.ext_getElem?
  intro p
  by_cases h : p < B.length
  · rw [swapped_get B z 0 p h, if_neg (by omega), List.getD, List.getElem?_eq_getElem h]; rfl
  · rw [List.getElem?_eq_none (by rw [swapped_len]; omega), List.getElem?_eq_none (by omega)]
theorem swapped_all {α : Type} (B : List α) (z : α) (j : Nat) (h : B.length ≤ 2 * j + 1) : swapped B z j = B.reverse := by
  apply List.ext_getElem?
  intro p
  by_cases hp : p < B.length
  · rw [swapped_get B z j p hp, List.getElem?_reverse hp]
    split
    · rw [List.getD, List.getElem?_eq_getElem (by omega)]; rfl
    · rename_i q
      have : B.length - 1 - p = p := by omega
      rw [this, List.getD, List.getElem?_eq_getElem hp]; rfl
  · rw [List.getElem?_eq_none (by rw [swapped_len]; omega), List.getElem?_eq_none (by simp; omega)]
theorem swapped_step {α : Type} (B : List α) (z : α) (j : Nat) (h : 2 * j + 1 < B.length) : ((swapped B z j).set j (B.getD (B.length - 1 - j) z)).set (B.length - 1 - j) (B.getD j z) = swapped B z (j + 1) := by
  apply List.ext_getElem?
  intro p
  by_cases hp : p < B.length
  · rw [swapped_get B z (j + 1) p hp, List.getElem?_set, List.getElem?_set]
    simp only [List.length_set, swapped_len]
    by_cases h1 : B.length - 1 - j = p
    · rw [if_pos h1, if_pos (by omega), if_pos (by omega)]
      congr 2; omega
    · rw [if_neg h1]
      by_cases h2 : j = p
      · rw [if_pos h2, if_pos (by omega), if_pos (by omega)]
        congr 2; omega
      · rw [if_neg h2, swapped_get B z j p hp]
        by_cases h3 : p < j ∨ B.length ≤ p + j
        · rw [if_pos h3, if_pos (by omega)]
        · rw [if_neg h3, if_neg (by omega)]
  · rw [List.getElem?_eq_none (by simp [swapped_len]; omega), List.getElem?_eq_none (by rw [swapped_len]; omega)]
theorem swapped_lo {α : Type} (B : List α) (z : α) (j : Nat) (h : 2 * j + 1 < B.length) : (swapped B z j)[j]? = some (B.getD j z) := by
  rw [swapped_get B z j j (by omega), if_neg (by omega)]
theorem swapped_hi {α : Type} (B : List α) (z : α) (j : Nat) (h : 2 * j + 1 < B.length) : (swapped B z j)[B.length - 1 - j]? = some (B.getD (B.length - 1 - j) z) := by
  rw [swapped_get B z j _ (by omega), if_neg (by omega)]
/-- The digits of a number, the last one first. -/
def lows (n : Nat) : Nat → By
  | 0 => []
  | k + 1 => lows n k ++ [UInt8.ofNat (48 + n / 10 ^ k % 10)]
theorem div_ten_succ (n k : Nat) : n / 10 ^ (k + 1) = n / 10 ^ k / 10 := by rw [Nat.pow_succ, Nat.div_div_eq_div_mul]
theorem lows_len (n k : Nat) : (lows n k).length = k := by induction k with
  | zero => rfl
  | succ k ih => rw [lows, List.length_append, ih]; rfl
theorem digits_lows (n : Nat) : ∀ k, (∀ j, j < k → 10 ≤ n / 10 ^ j) → digits n = digits (n / 10 ^ k) ++ (lows n k).reverse
  | 0, _ => by simp [lows]
  | k + 1, h => by
    rw [digits_lows n k (fun j hj => h j (by omega)), digits_ge _ (by have := h k (by omega); omega), div_ten_succ, lows, List.reverse_append]
    simp
/-- How many digits a number has ahead of its first one. -/
def dl (n : Nat) : Nat := if h : n < 10 then 0 else dl (n / 10) + 1
theorem dl_small (n : Nat) (h : n < 10) : dl n = 0 := by rw [dl, dif_pos h]
theorem dl_big (n : Nat) (h : ¬ n < 10) : dl n = dl (n / 10) + 1 := by rw [dl, dif_neg h]
theorem div_ten_first (n k : Nat) : n / 10 ^ (k + 1) = n / 10 / 10 ^ k := by rw [Nat.pow_succ, Nat.mul_comm, Nat.div_div_eq_div_mul]
theorem dl_step (n : Nat) : ∀ k, k < dl n → 10 ≤ n / 10 ^ k := by
  induction n using Nat.strongRecOn with
  | _ n ih =>
    intro k hk
    by_cases h : n < 10
    · rw [dl_small n h] at hk; omega
    · rw [dl_big n h] at hk
      cases k with
      | zero => simp; omega
      | succ k => rw [div_ten_first]; exact ih (n / 10) (by omega) k (by omega)
theorem dl_last (n : Nat) : n / 10 ^ dl n < 10 := by
  induction n using Nat.strongRecOn with
  | _ n ih =>
    by_cases h : n < 10
    · rw [dl_small n h]; simpa using h
    · rw [dl_big n h, div_ten_first]; exact ih (n / 10) (by omega)
theorem dl_le (n : Nat) (h : n < 9223372036854775808) : dl n ≤ 18 := by
  rcases Nat.lt_or_ge 18 (dl n) with q | q
  · have := dl_step n 18 q
    have e : (10 : Nat) ^ 18 = 1000000000000000000 := by decide
    rw [e] at this; omega
  · exact q
theorem digits_rev (n : Nat) : digits n = (lows n (dl n + 1)).reverse := by
  rw [digits_lows n (dl n) (dl_step n), lows, List.reverse_append, digits_lt _ (dl_last n), Nat.mod_eq_of_lt (dl_last n)]
  rfl
end Go.Pv
namespace Go.Pv
theorem Grow.keep {H H' : Heap} {d : D} {e : TypeId} {l : List D} (h : Grow H d e l) (hn : H.nx ≤ H'.nx) (hf : ∀ j, j < H.nx → H'.get j = H.get j) : Grow H' d e l := by
  rcases h with h | ⟨i, h1, h2, h3, h4⟩
  · exact .inl h
  · exact .inr ⟨i, by omega, h2, by rw [hf i h1]; exact h3, h4⟩
theorem Grow.row {H : Heap} {d : D} {e : TypeId} {l : List D} (h : Grow H d e l) (hl : l ≠ []) : ∃ i, i < H.nx ∧ d = .row i e 0 l.length ∧ H.get i = some (.row e l) := by
  rcases h with ⟨h, _⟩ | ⟨i, h1, h2, h3, h4⟩
  · exact absurd h hl
  · exact ⟨i, h1, h2, h3⟩
theorem Grow.one {H : Heap} {e : TypeId} (x : D) : Grow (H.new (.row e [x])) (.row H.nx e 0 1) e [x] := .inr ⟨H.nx, by simp, rfl, by simp, by simp⟩
theorem Grow.of {H : Heap} {i : Nat} {e : TypeId} {l : List D} (h1 : i < H.nx) (h2 : H.get i = some (.row e l)) (h3 : l ≠ []) : Grow H (.row i e 0 l.length) e l := .inr ⟨i, h1, rfl, h2, h3⟩
theorem cnt_pos (n k : Nat) (h : k < cnt n) : 0 < n / 128 ^ (k + 1) := by
  have := cnt_step n k h
  rw [div_pow_succ']
  exact Nat.div_pos this (by decide)
theorem cnt_zero (n : Nat) : n / 128 ^ (cnt n + 1) = 0 := by
  rw [div_pow_succ']; exact Nat.div_eq_of_lt (cnt_last n)
theorem u8_lo (z : Nat) : D.val (.int .u8 (IntKind.u8.wrap ((z % 128 : Nat) : Int))) = byD (UInt8.ofNat (z % 128)) := by
  rw [byD, show (UInt8.ofNat (z % 128)).toNat = z % 128 by simp; omega, wrapB _ (by omega) (by omega)]
theorem u8_hi (z : Nat) : D.val (.int .u8 (IntKind.u8.wrap (IntKind.i64.wrap (((z % 128 : Nat) : Int) + 128)))) = byD (UInt8.ofNat (128 + z % 128)) := by
  rw [byD, show (UInt8.ofNat (128 + z % 128)).toNat = 128 + z % 128 by simp; omega, wrapI _ (by omega) (by omega), wrapB _ (by omega) (by omega)]
  congr 2; omega
end Go.Pv
/-! ### The identifier that bytes tell: plain laws -/
namespace Go.Pv
theorem join_joinB (c : UInt8) : ∀ ps : List By, Lib.join ps [c] = joinB c ps
  | [] => rfl
  | [p] => by rw [Lib.join_one]; rfl
  | p :: q :: ps => by
    rw [joinB_cons _ _ _ (by simp), ← join_joinB c (q :: ps), Lib.join_cons, Lib.join_cons, Lib.joinTail]
    simp [Lib.joinTail]
def textM (A : List Nat) : By := joinB 46 (A.map digits)
/-- One byte more: the numbers that are told, and what is told of the next one. -/
def rdNext (A : List Nat) (n : Nat) : List Nat := if A = [] then [min (n / 40) 2, n - min (n / 40) 2 * 40] else A ++ [n]
def rdStep (A : List Nat) (n : Nat) (c : UInt8) : Option (List Nat × Nat) :=
  if 10000000079 < n * 128 + c.toNat % 128 ∨ 16 < A.length then none else if c.toNat < 128 then some (rdNext A (n * 128 + c.toNat % 128), 0) else some (A, n * 128 + c.toNat % 128)
def rdLoop : List Nat → Nat → By → Option (List Nat × Nat)
  | A, n, [] => some (A, n)
  | A, n, c :: bs => match rdStep A n c with
    | some (A', n') => rdLoop A' n' bs
    | none => none
theorem rdLoop_app : ∀ (x y : By) (A : List Nat) (n : Nat), rdLoop A n (x ++ y) = match rdLoop A n x with
    | some (A', n') => rdLoop A' n' y
    | none => none
  | [], y, A, n => rfl
  | c :: x, y, A, n => by
    simp only [List.cons_append, rdLoop]
    cases rdStep A n c with
    | none => rfl
    | some q => exact rdLoop_app x y q.1 q.2
theorem rd_hi (A : List Nat) (hA : A.length ≤ 16) : ∀ q, q ≤ 10000000079 → rdLoop A 0 (hiB q) = some (A, q) := by
  intro q
  induction q using Nat.strongRecOn with
  | _ q ih =>
    intro hq
    by_cases h : q = 0
    · subst h; rw [hiB_zero]; rfl
    · rw [hiB_pos q h, rdLoop_app, ih (q / 128) (by omega) (by omega)]
      have h1 : (UInt8.ofNat (128 + q % 128)).toNat = 128 + q % 128 := by simp [UInt8.toNat_ofNat]; omega
      simp only [rdLoop, rdStep, h1]
      rw [if_neg (by omega), if_neg (by omega), show q / 128 * 128 + (128 + q % 128) % 128 = q by omega]
theorem rd_sev (A : List Nat) (hA : A.length ≤ 16) (n : Nat) (hn : n ≤ 10000000079) : rdLoop A 0 (sev n) = some (rdNext A n, 0) := by
  rw [sev, rdLoop_app, rd_hi A hA (n / 128) (by omega)]
  have h1 : (UInt8.ofNat (n % 128)).toNat = n % 128 := by simp [UInt8.toNat_ofNat]; omega
  simp only [rdLoop, rdStep, h1]
  rw [if_neg (by omega), if_pos (by omega), show n / 128 * 128 + n % 128 % 128 = n by omega]
theorem rd_more : ∀ (r A : List Nat), A ≠ [] → A.length + r.length ≤ 17 → (∀ n ∈ r, n ≤ 10000000079) → rdLoop A 0 (r.flatMap sev) = some (A ++ r, 0)
  | [], A, _, _, _ => by simp [rdLoop]
  | n :: r, A, h0, h1, h2 => by
    simp only [List.length_cons] at h1
    rw [List.flatMap_cons, rdLoop_app, rd_sev A (by omega) n (h2 n (by simp))]
    simp only [rdNext, if_neg h0]
    rw [rd_more r (A ++ [n]) (by simp) (by simp; omega) (fun m hm => h2 m (by simp [hm]))]
    simp
theorem arcs_valid {l : By} {L : List Nat} (h : arcsM l = some L) : ∃ a b r, L = a :: b :: r ∧ r.length ≤ 14 ∧ a ≤ 2 ∧ (a < 2 → b < 40) ∧ b < 10000000000 ∧ (∀ n ∈ r, n < 10000000000) ∧ textM L = l := by
  unfold arcsM at h
  split at h
  · rename_i hall
    split at h
    · rename_i hok
      cases h
      have hlt : ∀ n ∈ (splitB 46 l).map digVal, n < 10000000000 := fun n hn => by
        obtain ⟨p, hp, rfl⟩ := List.mem_map.1 hn
        exact (okP_read (List.all_eq_true.1 hall p hp)).2.2
      have ht : textM ((splitB 46 l).map digVal) = l := by
        have e : List.map (digits ∘ digVal) (splitB 46 l) = splitB 46 l := (List.map_congr_left (g := id) (fun p hp => digits_read (okP_read (List.all_eq_true.1 hall p hp)).1)).trans (List.map_id _)
        rw [textM, List.map_map, e, join_split]
      unfold arcOk at hok
      split at hok
      · rename_i a b r e
        rw [e] at hlt ht ⊢
        simp only [Bool.and_eq_true, Bool.or_eq_true, decide_eq_true_eq] at hok
        exact ⟨a, b, r, rfl, hok.1.1, hok.1.2, fun q => by omega, hlt b (by simp), fun n hn => hlt n (by simp [hn]), ht⟩
      · cases hok
    · cases h
  · cases h
theorem rd_enc {l : By} {L : List Nat} (h : arcsM l = some L) : rdLoop [] 0 (enc L) = some (L, 0) := by
  obtain ⟨a, b, r, rfl, h1, h2, h3, h4, h5, _⟩ := arcs_valid h
  have hm : min ((a * 40 + b) / 40) 2 = a := by omega
  rw [enc, rdLoop_app, rd_sev [] (by simp) _ (by omega), rdNext, if_pos rfl, hm, show a * 40 + b - a * 40 = b by omega]
  simp only
  rw [rd_more r [a, b] (by simp) (by simp; omega) (fun n hn => by have := h5 n hn; omega)]
  rfl
def readM (bs : By) : Option By := match rdLoop [] 0 bs with
  | some (A, _) => if putM (textM A) = some bs then some (textM A) else none
  | none => none
theorem readM_iff (bs s : By) : readM bs = some s ↔ putM s = some bs := by
  constructor
  · intro h
    unfold readM at h
    split at h
    · split at h
      · cases h; assumption
      · cases h
    · cases h
  · intro h
    unfold putM at h
    obtain ⟨L, hL, rfl⟩ := Option.map_eq_some_iff.1 h
    obtain ⟨_, _, _, _, _, _, _, _, _, ht⟩ := arcs_valid hL
    unfold readM
    rw [rd_enc hL]
    simp only [ht]
    rw [if_pos (by rw [putM, hL]; rfl)]
/-! The document's own road. -/
def rrStep (s : By) (n : Nat) (c : UInt8) : By × Nat :=
  if c.toNat < 128 then (if s = [] then digits (min ((n * 128 + c.toNat % 128) / 40) 2) ++ 46 :: digits (n * 128 + c.toNat % 128 - min ((n * 128 + c.toNat % 128) / 40) 2 * 40) else s ++ 46 :: digits (n * 128 + c.toNat % 128), 0) else (s, n * 128 + c.toNat % 128)
def rrLoop : By → Nat → By → Option By
  | s, _, [] => some s
  | s, n, c :: bs => if 200 ≤ s.length then some s else if 100000000000 < n then none else rrLoop (rrStep s n c).1 (rrStep s n c).2 bs
def rreadM (bs : By) : Option By := match rrLoop [] 0 bs with
  | some s => if putM s = some bs then some s else none
  | none => none
theorem joinB_snoc (c : UInt8) : ∀ (ps : List By) (p : By), ps ≠ [] → joinB c (ps ++ [p]) = joinB c ps ++ c :: p
  | [], p, h => absurd rfl h
  | [q], p, _ => rfl
  | q :: q2 :: ps, p, _ => by
    have ih := joinB_snoc c (q2 :: ps) p (by simp)
    show joinB c (q :: (q2 :: ps ++ [p])) = _
    rw [joinB_cons c q _ (by simp), ih, joinB_cons c q (q2 :: ps) (by simp)]; simp
theorem text_next (A : List Nat) (n : Nat) : textM (rdNext A n) = if A = [] then digits (min (n / 40) 2) ++ 46 :: digits (n - min (n / 40) 2 * 40) else textM A ++ 46 :: digits n := by
  unfold rdNext
  split
  · rfl
  · rename_i h
    rw [textM, List.map_append, List.map_singleton, joinB_snoc _ _ _ (by simpa using h)]; rfl
theorem text_nil (A : List Nat) : textM A = [] ↔ A = [] := by
  cases A with
  | nil => simp [textM, joinB]
  | cons a A =>
    simp only [reduceCtorEq, iff_false]
    intro h
    rw [textM, List.map_cons] at h
    cases A with
    | nil => exact digits_ne a h
    | cons b A => rw [List.map_cons, joinB_cons _ _ _ (by simp)] at h; simp at h
theorem text_len (A : List Nat) (h : ∀ n ∈ A, n < 100000000000) : (textM A).length ≤ A.length * 12 := by
  have key : ∀ ps : List By, (∀ p ∈ ps, p.length ≤ 11) → (joinB 46 ps).length ≤ ps.length * 12 := by
    intro ps
    induction ps with
    | nil => intro _; simp [joinB]
    | cons p ps ih =>
      intro hp
      cases ps with
      | nil => have := hp p (by simp); simp [joinB]; omega
      | cons q ps =>
        have h1 := hp p (by simp)
        have h2 := ih (fun x hx => hp x (by simp [hx]))
        rw [joinB_cons _ _ _ (by simp), List.length_append, List.length_cons]
        simp only [List.length_cons] at *; omega
  have := key (A.map digits) (fun p hp => by
    obtain ⟨n, hn, rfl⟩ := List.mem_map.1 hp
    exact digits_len 10 n (h n hn))
  rwa [List.length_map] at this
/-- Where the program's road comes through with few numbers, the document's does so. -/
theorem rr_follow : ∀ (bs : By) (A : List Nat) (n : Nat) (A' : List Nat) (n' : Nat), rdLoop A n bs = some (A', n') → A'.length ≤ 16 → n ≤ 10000000079 → (∀ m ∈ A, m < 100000000000) → rrLoop (textM A) n bs = some (textM A')
  | [], A, n, A', n', h, _, _, _ => by simp only [rdLoop, Option.some.injEq, Prod.mk.injEq] at h; rw [rrLoop, h.1]
  | c :: bs, A, n, A', n', h, hl, hn, hA => by
    have hlt := c.toNat_lt
    simp only [rdLoop] at h
    have hmono : ∀ (bs : By) (A : List Nat) (n : Nat) (A' : List Nat) (n' : Nat), rdLoop A n bs = some (A', n') → A.length ≤ A'.length := by
      intro bs
      induction bs with
      | nil => intro A n A' n' h; simp only [rdLoop, Option.some.injEq, Prod.mk.injEq] at h; rw [h.1]; exact Nat.le_refl _
      | cons c bs ih =>
        intro A n A' n' h
        simp only [rdLoop, rdStep] at h
        split at h
        · rename_i q A2 n2 e
          have h3 := ih A2 n2 A' n' h
          split at e
          · cases e
          · split at e
            · cases e
              have : A.length ≤ (rdNext A (n * 128 + c.toNat % 128)).length := by
                unfold rdNext; split
                · rename_i q; subst q; simp
                · simp
              omega
            · cases e; exact h3
        · cases h
    have hAl : A.length ≤ 16 := by
      have := hmono (c :: bs) A n A' n' (by simpa only [rdLoop] using h)
      omega
    have hsl := text_len A hA
    cases e : rdStep A n c with
    | none => rw [e] at h; cases h
    | some q =>
      rw [e] at h
      simp only at h
      unfold rdStep at e
      split at e
      · cases e
      · rename_i hq
        have hbig : ¬ 100000000000 < n := by omega
        rw [rrLoop, if_neg (by omega), if_neg hbig, rrStep]
        split at e
        · rename_i hc
          cases e
          rw [if_pos hc]
          have hn2 : ∀ m ∈ rdNext A (n * 128 + c.toNat % 128), m < 100000000000 := by
            intro m hm
            unfold rdNext at hm
            split at hm
            · simp only [List.mem_cons, List.mem_nil_iff, or_false] at hm
              rcases hm with rfl | rfl <;> omega
            · rcases List.mem_append.1 hm with hm | hm
              · exact hA m hm
              · simp only [List.mem_cons, List.mem_nil_iff, or_false] at hm; omega
          have := rr_follow bs _ _ A' n' h hl (by omega) hn2
          rw [text_next] at this
          by_cases hA0 : A = []
          · simp only [hA0, if_true] at this ⊢
            simpa [textM, joinB] using this
          · have : ¬ textM A = [] := fun q => hA0 ((text_nil A).1 q)
            simp_all
        · rename_i hc
          cases e
          rw [if_neg hc]
          exact rr_follow bs A _ A' n' h hl (by omega) hA
theorem rreadM_eq (bs : By) : rreadM bs = readM bs := by
  have h1 : ∀ s, rreadM bs = some s → putM s = some bs := by
    intro s h
    unfold rreadM at h
    split at h
    · split at h
      · cases h; assumption
      · cases h
    · cases h
  have h2 : ∀ s, putM s = some bs → rreadM bs = some s := by
    intro s h
    have h' := h
    unfold putM at h
    obtain ⟨L, hL, rfl⟩ := Option.map_eq_some_iff.1 h
    obtain ⟨a, b, r, hLe, hr, _, _, _, _, ht⟩ := arcs_valid hL
    have := rr_follow (enc L) [] 0 L 0 (rd_enc hL) (by rw [hLe]; simp; omega) (by omega) (by simp)
    rw [ht] at this
    have t0 : textM [] = [] := rfl
    rw [t0] at this
    unfold rreadM
    rw [this]
    simp only
    rw [if_pos h']
  cases hr : rreadM bs with
  | some s => exact ((readM_iff bs s).2 (h1 s hr)).symm
  | none =>
    cases hm : readM bs with
    | none => rfl
    | some s => have := h2 s ((readM_iff bs s).1 hm); rw [hr] at this; cases this
end Go.Pv
