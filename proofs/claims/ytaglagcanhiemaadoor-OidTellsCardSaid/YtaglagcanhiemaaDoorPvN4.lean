/- A part of the proof: functions of the program, walked, or what operations come to. -/
import Derived.Test.YtaglagcanhiemaaDoorPvN3
import Derived.Lib.Bytealg
/-! ### Parts of a text, as the library finds them -/
namespace Go.Pv
@[simp] theorem nn1 (n : Nat) : (0 ≤ (n : Int) + 1) = True := eq_true (by omega)
@[simp] theorem nlt1 (n : Nat) : ((n : Int) < (n : Int) + 1) = True := eq_true (by omega)
@[simp] theorem nlt0 (n : Nat) : ((n : Int) < 0) = False := eq_false (by omega)
theorem flat_single (l : List D) (h : ∀ d ∈ l, cellsD d = [d]) : flat l = l := by
  induction l with
  | nil => rfl
  | cons a l ih => rw [flat_cons, h a (by simp), ih (fun d hd => h d (by simp [hd]))]; rfl
theorem pure_vals {α : Type} (f : α → Value) (g e : Nat) (L : List α) : Pure (.slice g e (L.map fun x => D.val (f x))) := .slice _ _ _ fun d hd => by
  rw [flat_single _ (fun d hd => by obtain ⟨s, _, rfl⟩ := List.mem_map.1 hd; rfl)] at hd
  obtain ⟨s, _, rfl⟩ := List.mem_map.1 hd
  exact .val _
theorem pure_strs (g e : Nat) (L : List By) : Pure (.slice g e (L.map sD)) := pure_vals (fun s : By => .string ⟨s.toArray⟩) g e L
theorem indexByte_at (c : UInt8) : ∀ (p r : By), c ∉ p → Lib.indexByte (p ++ c :: r) c = (p.length : Int)
  | [], r, _ => by simp [Lib.indexByte]
  | a :: p, r, h => by
    have h1 : (a == c) = false := by
      rw [beq_eq_false_iff_ne]; exact fun e => h (by simp [e])
    have h2 := indexByte_at c p r (fun q => h (by simp [q]))
    have h3 : ((p.length : Int) == -1) = false := by rw [beq_eq_false_iff_ne]; omega
    rw [List.cons_append, Lib.indexByte, h1, h2, h3]
    simp
theorem indexByte_none (c : UInt8) : ∀ (p : By), c ∉ p → Lib.indexByte p c = -1
  | [], _ => rfl
  | a :: p, h => by
    have h1 : (a == c) = false := by
      rw [beq_eq_false_iff_ne]; exact fun e => h (by simp [e])
    have h2 := indexByte_none c p (fun q => h (by simp [q]))
    rw [Lib.indexByte, h1, h2]
    rfl
theorem splitB_len (c : UInt8) : ∀ l : By, (splitB c l).length = l.count c + 1
  | [] => rfl
  | x :: l => by
    have ih := splitB_len c l
    simp only [splitB]
    by_cases h : x = c
    · subst h; simp [ih]
    · rw [if_neg h, List.count_cons_of_ne (fun e => h e)]
      cases hs : splitB c l with
      | nil => exact absurd hs (splitB_ne _ _)
      | cons p ps => rw [hs] at ih; simpa using ih
theorem splitB_two (c : UInt8) : ∀ (l : By) (p q : By) (ps : List By), splitB c l = p :: q :: ps → ∃ r, l = p ++ c :: r ∧ c ∉ p ∧ splitB c r = q :: ps
  | [], p, q, ps, h => by simp [splitB] at h
  | x :: l, p, q, ps, h => by
    simp only [splitB] at h
    by_cases hx : x = c
    · rw [if_pos hx] at h
      simp only [List.cons.injEq] at h
      exact ⟨l, by rw [hx, ← h.1]; rfl, by rw [← h.1]; simp, h.2⟩
    · rw [if_neg hx] at h
      cases hs : splitB c l with
      | nil => exact absurd hs (splitB_ne _ _)
      | cons p2 ps2 =>
        rw [hs] at h
        simp only [List.cons.injEq] at h
        obtain ⟨rfl, rfl⟩ := h
        obtain ⟨r, h1, h2, h3⟩ := splitB_two c l p2 q ps hs
        refine ⟨r, by rw [h1]; rfl, fun hm => ?_, h3⟩
        rcases List.mem_cons.1 hm with e | e
        · exact hx e.symm
        · exact h2 e
theorem splitB_one (c : UInt8) : ∀ (l p : By), splitB c l = [p] → l = p
  | l, p, h => by have := join_split c l; rw [h] at this; exact this.symm
theorem splitB_snoc (c : UInt8) (x : UInt8) : ∀ l : By, splitB c (l ++ [x]) = if x = c then splitB c l ++ [[]] else (splitB c l).dropLast ++ [(splitB c l).getLast (splitB_ne c l) ++ [x]]
  | [] => by by_cases h : x = c <;> simp [splitB, h]
  | a :: l => by
    have ih := splitB_snoc c x l
    by_cases h : x = c
    · rw [if_pos h] at ih ⊢
      by_cases ha : a = c
      · simp [splitB, ha, ih]
      · cases hs : splitB c l with
        | nil => exact absurd hs (splitB_ne _ _)
        | cons p ps => simp [splitB, ha, ih, hs]
    · rw [if_neg h] at ih ⊢
      by_cases ha : a = c
      · have hn := splitB_ne c l
        simp only [List.cons_append, splitB, if_pos ha, ih]
        rw [List.dropLast_cons_of_ne_nil hn, List.getLast_cons hn]; rfl
      · cases hs : splitB c l with
        | nil => exact absurd hs (splitB_ne _ _)
        | cons p ps =>
          simp only [hs] at ih
          cases ps with
          | nil => simp at ih; simp [splitB, ha, ih, hs]
          | cons q ps => simp at ih; simp [splitB, ha, ih, hs]
end Go.Pv
