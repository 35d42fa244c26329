/- A part of the proof: functions of the program, walked, or what operations come to. -/
import Derived.Lib.SlicesCompact
namespace Go.Pv
open Go.Lib
/-! ### Sorted lists, each element once -/
abbrev Bs := List UInt8
def Lt (a b : Bs) : Prop := a ≤ b ∧ a ≠ b
theorem mem_compactUpTo (d : Array Bs) (x : Bs) : ∀ m, x ∈ compactUpTo d m ↔ ∃ j, j < m ∧ d[j]! = x
  | 0 => by simp [compactUpTo]
  | m + 1 => by
    rw [compactUpTo_succ, List.mem_append, mem_compactUpTo d x m]
    constructor
    · rintro (⟨j, h1, h2⟩ | h)
      · exact ⟨j, by omega, h2⟩
      · split at h
        · exact ⟨m, by omega, by simp only [List.mem_singleton] at h; exact h.symm⟩
        · cases h
    · rintro ⟨j, h1, h2⟩
      by_cases hj : j < m
      · exact .inl ⟨j, hj, h2⟩
      · obtain rfl : j = m := by omega
        by_cases hk : keeps d j = true
        · right; rw [if_pos hk]; simp [h2]
        · left
          have : ¬ (j = 0 ∨ d[j]! ≠ d[j - 1]!) := by simpa [keeps] using hk
          have h3 : j ≠ 0 := fun q => this (.inl q)
          have h4 : d[j]! = d[j - 1]! := Decidable.byContradiction fun q => this (.inr q)
          exact ⟨j - 1, by omega, by rw [← h4]; exact h2⟩
theorem mem_compact (l : List Bs) (x : Bs) : x ∈ compact l ↔ x ∈ l := by
  rw [compact, mem_compactUpTo, List.mem_iff_getElem]
  constructor
  · rintro ⟨j, h1, h2⟩
    refine ⟨j, h1, ?_⟩
    have : l.toArray[j]! = l[j] := by simp [h1]
    rw [← this, h2]
  · rintro ⟨j, h1, h2⟩
    refine ⟨j, h1, ?_⟩
    have : l.toArray[j]! = l[j] := by simp [h1]
    rw [this, h2]
theorem compactUpTo_pw (d : Array Bs) (hs : ∀ i j, i < j → j < d.size → d[i]! ≤ d[j]!) : ∀ m, m ≤ d.size → (compactUpTo d m).Pairwise Lt
  | 0, _ => by simp [compactUpTo]
  | m + 1, hm => by
    rw [compactUpTo_succ]
    by_cases hk : keeps d m = true
    · rw [if_pos hk, List.pairwise_append]
      refine ⟨compactUpTo_pw d hs m (by omega), by simp, fun a ha b hb => ?_⟩
      simp only [List.mem_singleton] at hb
      subst hb
      obtain ⟨j, h1, rfl⟩ := (mem_compactUpTo d a m).1 ha
      refine ⟨hs j m h1 (by omega), fun q => ?_⟩
      have hk' : m = 0 ∨ d[m]! ≠ d[m - 1]! := by simpa [keeps] using hk
      rcases hk' with h | h
      · omega
      · apply h
        by_cases e : j = m - 1
        · rw [← e, q]
        · have h3 := hs j (m - 1) (by omega) (by omega)
          have h4 := hs (m - 1) m (by omega) (by omega)
          rw [q] at h3
          exact List.le_antisymm h3 h4
    · rw [if_neg hk, List.append_nil]
      exact compactUpTo_pw d hs m (by omega)
def sortB' (l : List Bs) : List Bs := l.mergeSort fun x y => decide (x ≤ y)
theorem compact_sort_pw (l : List Bs) : (compact (sortB' l)).Pairwise Lt := by
  have hp : (sortB' l).Pairwise fun a b => decide (a ≤ b) = true := List.pairwise_mergeSort
    (fun a b c h k => by simp only [decide_eq_true_eq] at *; exact List.le_trans h k)
    (fun a b => by simp only [Bool.or_eq_true, decide_eq_true_eq]; exact List.le_total a b) l
  refine compactUpTo_pw _ (fun i j hij hj => ?_) _ (by simp)
  have hj' : j < (sortB' l).length := by simpa using hj
  have h1 : (sortB' l).toArray[i]! = (sortB' l)[i] := by simp [show i < (sortB' l).length by omega]
  have h2 : (sortB' l).toArray[j]! = (sortB' l)[j] := by simp [hj']
  rw [h1, h2]
  have := List.pairwise_iff_getElem.1 hp i j (by omega) hj' hij
  simpa using this
theorem ext_of_pw : ∀ {l l' : List Bs}, l.Pairwise Lt → l'.Pairwise Lt → (∀ x, x ∈ l ↔ x ∈ l') → l = l'
  | [], [], _, _, _ => rfl
  | [], b :: t', _, _, hm => absurd ((hm b).2 (by simp)) (by simp)
  | a :: t, [], _, _, hm => absurd ((hm a).1 (by simp)) (by simp)
  | a :: t, b :: t', h, h', hm => by
    rw [List.pairwise_cons] at h h'
    have hab : a = b := by
      have h1 := (hm a).1 (by simp)
      have h2 := (hm b).2 (by simp)
      rcases List.mem_cons.1 h1 with e | e1
      · exact e
      · rcases List.mem_cons.1 h2 with e | e2
        · exact e.symm
        · exact List.le_antisymm (h.1 b e2).1 (h'.1 a e1).1
    subst hab
    rw [ext_of_pw h.2 h'.2 fun x => ?_]
    constructor
    · intro hx
      rcases List.mem_cons.1 ((hm x).1 (by simp [hx])) with e | e
      · subst e; exact absurd rfl (h.1 x hx).2
      · exact e
    · intro hx
      rcases List.mem_cons.1 ((hm x).2 (by simp [hx])) with e | e
      · subst e; exact absurd rfl (h'.1 x hx).2
      · exact e
theorem cs_mem (l : List Bs) (x : Bs) : x ∈ compact (sortB' l) ↔ x ∈ l := by rw [mem_compact, sortB', List.mem_mergeSort]
theorem cs_ext {l l' : List Bs} (h : ∀ x, x ∈ l ↔ x ∈ l') : compact (sortB' l) = compact (sortB' l') :=
  ext_of_pw (compact_sort_pw l) (compact_sort_pw l') fun x => by rw [cs_mem, cs_mem]; exact h x
end Go.Pv
