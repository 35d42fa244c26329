/- A part of the proof: functions of the program, walked, or what operations come to. -/
import Derived.Test.YtnmpinbfddjhmaaPvGen
/-! ### Digits, and parts of a text: plain laws -/
namespace Go.Pv
abbrev By := List UInt8
theorem snocRec {α : Type} {p : List α → Prop} (l : List α) (nil : p []) (append_singleton : ∀ l a, p l → p (l ++ [a])) : p l := by
  rw [← List.reverse_reverse l]
  induction l.reverse with
  | nil => exact nil
  | cons a m ih => rw [List.reverse_cons]; exact append_singleton _ _ ih
def sD (l : By) : D := .val (.string ⟨l.toArray⟩)
theorem byteAt_of {l : List UInt8} {k : Nat} {c : UInt8} (h : l[k]? = some c) : byteAt l k = (c.toNat : Int) := by simp [byteAt, List.getD, h]
theorem toNat_lt (c : UInt8) : c.toNat < 256 := c.toNat_lt
/-- The first byte. -/
def hd0 (l : By) : UInt8 := l.headD 0
@[simp] theorem hd0_cons (c : UInt8) (l : By) : hd0 (c :: l) = c := rfl
theorem hd0_of {l : By} {c : UInt8} (h : l[0]? = some c) : hd0 l = c := by cases l with | nil => cases h | cons a l => simpa [hd0] using h
def isDig (c : UInt8) : Bool := decide (48 ≤ c.toNat ∧ c.toNat ≤ 57)
def digVal (l : By) : Nat := l.foldl (fun n c => n * 10 + (c.toNat - 48)) 0
def numOk (l : By) : Bool := !l.isEmpty && l.all isDig && decide (l.length ≤ 18) && (decide (l.length ≤ 1) || decide (hd0 l ≠ 48))
def readDigits (l : By) : Option Nat := if numOk l = true then some (digVal l) else none
def digits (n : Nat) : By := if h : n < 10 then [UInt8.ofNat (48 + n)] else digits (n / 10) ++ [UInt8.ofNat (48 + n % 10)]
theorem digits_lt (n : Nat) (h : n < 10) : digits n = [UInt8.ofNat (48 + n)] := by rw [digits, dif_pos h]
theorem digits_ge (n : Nat) (h : ¬ n < 10) : digits n = digits (n / 10) ++ [UInt8.ofNat (48 + n % 10)] := by rw [digits, dif_neg h]
theorem dig_nat (k : Nat) (h : k < 10) : (UInt8.ofNat (48 + k)).toNat = 48 + k := by simp [UInt8.toNat_ofNat]; omega
theorem digits_all (n : Nat) : (digits n).all isDig = true := by
  induction n using Nat.strongRecOn with
  | _ n ih =>
    by_cases h : n < 10
    · rw [digits_lt n h]; simp only [List.all_cons, List.all_nil, Bool.and_true, isDig, dig_nat n h]; simp; omega
    · rw [digits_ge n h, List.all_append, ih (n / 10) (by omega)]
      simp only [List.all_cons, List.all_nil, Bool.and_true, isDig, dig_nat (n % 10) (by omega)]; simp; omega
theorem digits_ne (n : Nat) : digits n ≠ [] := by
  by_cases h : n < 10
  · rw [digits_lt n h]; simp
  · rw [digits_ge n h]; simp
@[simp] theorem digVal_nil : digVal [] = 0 := rfl
theorem digVal_snoc (l : By) (c : UInt8) : digVal (l ++ [c]) = digVal l * 10 + (c.toNat - 48) := by simp [digVal]
theorem digVal_digits (n : Nat) : digVal (digits n) = n := by
  induction n using Nat.strongRecOn with
  | _ n ih =>
    by_cases h : n < 10
    · rw [digits_lt n h]; simp only [digVal, List.foldl_cons, List.foldl_nil, dig_nat n h]; omega
    · rw [digits_ge n h, digVal_snoc, ih (n / 10) (by omega), dig_nat _ (by omega)]; omega
theorem digits_len (k : Nat) : ∀ n, n < 10 ^ (k + 1) → (digits n).length ≤ k + 1 := by
  induction k with
  | zero => intro n h; rw [digits_lt n (by simpa using h)]; simp
  | succ k ih =>
    intro n h
    by_cases h1 : n < 10
    · rw [digits_lt n h1]; simp
    · rw [digits_ge n h1, List.length_append]
      have := ih (n / 10) (by have : 10 ^ (k + 1 + 1) = 10 ^ (k + 1) * 10 := Nat.pow_succ ..; omega)
      simp; omega
theorem digits_head (n : Nat) (h : 0 < n) : hd0 (digits n) ≠ 48 := by
  induction n using Nat.strongRecOn with
  | _ n ih =>
    by_cases h1 : n < 10
    · rw [digits_lt n h1]
      simp only [hd0_cons]
      intro e
      have := congrArg UInt8.toNat e
      rw [dig_nat n h1] at this
      have e48 : (48 : UInt8).toNat = 48 := rfl
      omega
    · rw [digits_ge n h1]
      have h2 := ih (n / 10) (by omega) (by omega)
      cases hd : digits (n / 10) with
      | nil => exact absurd hd (digits_ne _)
      | cons a l => rw [hd] at h2; simpa using h2
theorem read_digits (n : Nat) (h : n < 10 ^ 18) : readDigits (digits n) = some n := by
  unfold readDigits
  rw [if_pos, digVal_digits]
  have h1 : (digits n).length ≤ 18 := digits_len 17 n h
  have h2 := digits_ne n
  simp only [numOk, digits_all, Bool.and_true, Bool.and_eq_true, Bool.not_eq_true', List.isEmpty_eq_false_iff, decide_eq_true_eq, Bool.or_eq_true]
  refine ⟨⟨h2, h1⟩, ?_⟩
  rcases Nat.eq_zero_or_pos n with rfl | h3
  · left; rw [digits_lt 0 (by omega)]; simp
  · exact .inr (digits_head n h3)
theorem digVal_pos (l : By) (h : l.all isDig = true) (h0 : l ≠ []) (h1 : hd0 l ≠ 48) : 0 < digVal l := by
  induction l using snocRec with
  | nil => exact absurd rfl h0
  | append_singleton l c ih =>
    rw [digVal_snoc]
    rw [List.all_append, Bool.and_eq_true] at h
    by_cases h2 : l = []
    · subst h2
      simp only [List.nil_append, hd0_cons] at h1
      have hc : isDig c = true := by simpa using h.2
      simp only [isDig, decide_eq_true_eq] at hc
      have : c.toNat ≠ 48 := fun e => h1 (UInt8.toNat_inj.1 (by rw [e]; rfl))
      omega
    · have := ih h.1 h2 (by cases l with | nil => exact absurd rfl h2 | cons a l => simpa using h1)
      omega
theorem digits_digVal : ∀ (l : By), l.all isDig = true → l ≠ [] → (l.length ≤ 1 ∨ hd0 l ≠ 48) → digits (digVal l) = l := by
  intro l
  induction l using snocRec with
  | nil => intro _ h; exact absurd rfl h
  | append_singleton l c ih =>
    intro h h0 h1
    rw [List.all_append, Bool.and_eq_true] at h
    have hc : isDig c = true := by simpa using h.2
    simp only [isDig, decide_eq_true_eq] at hc
    have hcc : UInt8.ofNat (48 + (c.toNat - 48)) = c := by
      rw [show 48 + (c.toNat - 48) = c.toNat by omega]; exact UInt8.ofNat_toNat
    rw [digVal_snoc]
    by_cases h2 : l = []
    · subst h2
      rw [digits_lt _ (by simp [digVal]; omega)]
      simp [digVal, hcc]
    · have h3 : hd0 l ≠ 48 := by
        rcases h1 with h1 | h1
        · have hz : l.length ≠ 0 := fun q => h2 (List.eq_nil_of_length_eq_zero q)
          rw [List.length_append, List.length_singleton] at h1; omega
        · cases l with | nil => exact absurd rfl h2 | cons a l => simpa using h1
      have hp := digVal_pos l h.1 h2 h3
      rw [digits_ge _ (by omega), show (digVal l * 10 + (c.toNat - 48)) / 10 = digVal l by omega, show (digVal l * 10 + (c.toNat - 48)) % 10 = c.toNat - 48 by omega, ih h.1 h2 (.inr h3), hcc]
theorem digits_read {l : By} {n : Nat} (h : readDigits l = some n) : digits n = l := by
  unfold readDigits at h
  split at h
  · cases h
    rename_i h
    simp only [numOk, Bool.and_eq_true, Bool.not_eq_true', List.isEmpty_eq_false_iff, decide_eq_true_eq, Bool.or_eq_true] at h
    exact digits_digVal l h.1.1.2 h.1.1.1 h.2
  · cases h
theorem digVal_lt (l : By) (ha : l.all isDig = true) : digVal l < 10 ^ l.length := by
  induction l using snocRec with
  | nil => simp [digVal]
  | append_singleton l c ih =>
    rw [List.all_append, Bool.and_eq_true] at ha
    have := ih ha.1
    have hc : isDig c = true := by simpa using ha.2
    simp only [isDig, decide_eq_true_eq] at hc
    rw [digVal_snoc, List.length_append, List.length_singleton, Nat.pow_succ]
    omega
theorem wrapI (z : Int) (h1 : -9223372036854775808 ≤ z) (h2 : z ≤ 9223372036854775807) : IntKind.i64.wrap z = z := by
  simp [IntKind.wrap, IntKind.bits, IntKind.signed]; omega
theorem wrapB (z : Int) (h1 : 0 ≤ z) (h2 : z ≤ 255) : IntKind.u8.wrap z = z := by
  simp [IntKind.wrap, IntKind.bits, IntKind.signed]; omega
theorem digVal_take (l : By) (k : Nat) (c : UInt8) (h : l[k]? = some c) : digVal (l.take (k + 1)) = digVal (l.take k) * 10 + (c.toNat - 48) := by
  rw [List.take_add_one, h]; exact digVal_snoc _ _
theorem readDigits_lt {l : By} {n : Nat} (h : readDigits l = some n) : n < 10 ^ l.length := by
  unfold readDigits at h
  split at h
  · cases h
    rename_i h
    simp only [numOk, Bool.and_eq_true] at h
    have ha := h.1.1.2
    clear h
    induction l using snocRec with
    | nil => simp [digVal]
    | append_singleton l c ih =>
      rw [List.all_append, Bool.and_eq_true] at ha
      have := ih ha.1
      have hc : isDig c = true := by simpa using ha.2
      simp only [isDig, decide_eq_true_eq] at hc
      rw [digVal_snoc, List.length_append, List.length_singleton, Nat.pow_succ]
      omega
  · cases h
/-! Parts between signs. -/
def splitB (c : UInt8) : By → List By
  | [] => [[]]
  | x :: l => if x = c then [] :: splitB c l else match splitB c l with
    | p :: ps => (x :: p) :: ps
    | [] => [[x]]
def joinB (c : UInt8) : List By → By
  | [] => []
  | [p] => p
  | p :: q :: ps => p ++ c :: joinB c (q :: ps)
theorem splitB_ne (c : UInt8) (l : By) : splitB c l ≠ [] := by
  cases l with
  | nil => simp [splitB]
  | cons x l => simp only [splitB]; split; · simp
                split <;> simp
theorem joinB_cons (c : UInt8) (p : By) (ps : List By) (h : ps ≠ []) : joinB c (p :: ps) = p ++ c :: joinB c ps := by
  cases ps with
  | nil => exact absurd rfl h
  | cons q ps => rfl
theorem join_split (c : UInt8) : ∀ l, joinB c (splitB c l) = l
  | [] => rfl
  | x :: l => by
    have ih := join_split c l
    simp only [splitB]
    split
    · rename_i e; subst e
      rw [joinB_cons _ _ _ (splitB_ne _ _), ih]; rfl
    · cases h : splitB c l with
      | nil => exact absurd h (splitB_ne _ _)
      | cons p ps =>
        rw [h] at ih
        simp only
        cases ps with
        | nil => simp only [joinB] at ih ⊢; rw [ih]
        | cons q ps => rw [joinB_cons _ _ _ (by simp)] at ih ⊢; rw [← ih]; rfl
theorem splitB_free (c : UInt8) : ∀ l, ∀ p ∈ splitB c l, c ∉ p
  | [] => by simp [splitB]
  | x :: l => by
    have ih := splitB_free c l
    simp only [splitB]
    split
    · intro p hp
      rcases List.mem_cons.1 hp with rfl | hp
      · simp
      · exact ih p hp
    · rename_i hne
      cases h : splitB c l with
      | nil => exact absurd h (splitB_ne _ _)
      | cons q ps =>
        rw [h] at ih
        intro p hp
        rcases List.mem_cons.1 hp with rfl | hp
        · intro hm
          rcases List.mem_cons.1 hm with e | hm
          · exact hne e.symm
          · exact ih q (by simp) hm
        · exact ih p (by simp [hp])
theorem splitB_plain (c : UInt8) : ∀ p : By, c ∉ p → splitB c p = [p]
  | [], _ => rfl
  | x :: p, h => by
    have h1 : x ≠ c := fun e => h (by simp [e])
    rw [splitB, if_neg h1, splitB_plain c p (fun q => h (by simp [q]))]
theorem splitB_app (c : UInt8) : ∀ (p l : By), c ∉ p → splitB c (p ++ c :: l) = p :: splitB c l
  | [], l, _ => by simp [splitB]
  | x :: p, l, h => by
    have h1 : x ≠ c := fun e => h (by simp [e])
    rw [List.cons_append, splitB, if_neg h1, splitB_app c p l (fun q => h (by simp [q]))]
theorem split_join (c : UInt8) : ∀ ps : List By, ps ≠ [] → (∀ p ∈ ps, c ∉ p) → splitB c (joinB c ps) = ps
  | [], h, _ => absurd rfl h
  | [p], _, h => splitB_plain c p (h p (by simp))
  | p :: q :: ps, _, h => by
    rw [joinB_cons _ _ _ (by simp), splitB_app c p _ (h p (by simp)), split_join c (q :: ps) (by simp) (fun x hx => h x (by simp [hx]))]
end Go.Pv
