/- A part of the proof: functions of the program, walked, or what operations come to. -/
import Derived.Test.YtmaajijhfpdefaaPvS19
namespace Go.Pv
open Go.Proofs
/-! ### The reference's lists are the program's -/
theorem putL_mem (l : List Bs) (s x : Bs) : x ∈ putL l s ↔ x = s ∨ x ∈ l := by
  unfold putL
  split
  · rename_i h
    exact ⟨.inr, fun q => q.elim (fun e => e ▸ h) id⟩
  · have : x ∈ l ↔ x ∈ l.take (cutK l s) ∨ x ∈ l.drop (cutK l s) := by rw [← List.mem_append, List.take_append_drop]
    rw [this]
    simp only [List.mem_append, List.mem_singleton]
    constructor
    · rintro ((h | h) | h)
      · exact .inr (.inl h)
      · exact .inl h
      · exact .inr (.inr h)
    · rintro (h | h | h)
      · exact .inl (.inr h)
      · exact .inl (.inl h)
      · exact .inr h
theorem putL_pw {l : List Bs} (s : Bs) (h : l.Pairwise Lt) : (putL l s).Pairwise Lt := by
  unfold putL
  split
  · exact h
  · rename_i hs
    have hlt : ∀ a ∈ l.take (cutK l s), Lt a s := fun a ha => by
      obtain ⟨j, hj, rfl⟩ := List.getElem_of_mem ha
      rw [List.length_take] at hj
      rw [List.getElem_take]
      have hjl : j < l.length := by omega
      have h1 := cutK_lt (s := s) (show j < cutK l s by omega) (List.getElem?_eq_getElem hjl)
      refine ⟨?_, fun e => hs (e ▸ List.getElem_mem hjl)⟩
      rcases List.le_total l[j] s with q | q
      · exact q
      · exact absurd h1 q
    have hgt : ∀ a ∈ l.drop (cutK l s), Lt s a := fun a ha => by
      obtain ⟨j, hj, rfl⟩ := List.getElem_of_mem ha
      rw [List.length_drop] at hj
      rw [List.getElem_drop]
      have hk : cutK l s < l.length := by omega
      have h1 : s ≤ l[cutK l s] := cutK_ge (List.getElem?_eq_getElem hk)
      refine ⟨?_, fun e => hs (e ▸ List.getElem_mem _)⟩
      by_cases e : j = 0
      · subst e; exact h1
      · have := List.pairwise_iff_getElem.1 h (cutK l s) (cutK l s + j) hk (by omega) (by omega)
        exact List.le_trans h1 this.1
    rw [List.append_assoc, List.singleton_append, List.pairwise_append]
    refine ⟨h.sublist (List.take_sublist _ _), List.pairwise_cons.2 ⟨hgt, h.sublist (List.drop_sublist _ _)⟩, fun a ha b hb => ?_⟩
    rcases List.mem_cons.1 hb with rfl | hb
    · exact hlt a ha
    · have h1 := hlt a ha
      have h2 := hgt b hb
      exact ⟨List.le_trans h1.1 h2.1, fun e => by subst e; exact h1.2 (List.le_antisymm h1.1 h2.1)⟩
theorem putAll_mem : ∀ (xs M : List Bs) (x : Bs), x ∈ putAll M xs ↔ x ∈ M ∨ x ∈ xs
  | [], M, x => by simp [putAll]
  | y :: xs, M, x => by
    have := putAll_mem xs (putL M y) x
    rw [putL_mem] at this
    simp only [putAll, List.foldl_cons, List.mem_cons] at *
    rw [this]
    exact ⟨fun h => h.elim (fun h => h.elim (fun e => .inr (.inl e)) .inl) (fun h => .inr (.inr h)), fun h => h.elim (fun h => .inl (.inr h)) (fun h => h.elim (fun e => .inl (.inl e)) .inr)⟩
theorem putAll_pw : ∀ (xs M : List Bs), M.Pairwise Lt → (putAll M xs).Pairwise Lt
  | [], M, h => h
  | y :: xs, M, h => putAll_pw xs (putL M y) (putL_pw y h)
theorem allM_mem (ks : List Nat) (x : Bs) : ∀ k, x ∈ allM ks k ↔ ∃ j, j < k ∧ meantB ks j = true ∧ x ∈ byts (mu j)
  | 0 => by simp [allM]
  | k + 1 => by
    have ih := allM_mem ks x k
    unfold allM
    split
    · rename_i h
      rw [putAll_mem, ih]
      exact ⟨fun q => q.elim (fun ⟨j, h1, h2⟩ => ⟨j, by omega, h2⟩) (fun q => ⟨k, by omega, h, q⟩), fun ⟨j, h1, h2, h3⟩ => by
        by_cases e : j = k
        · subst e; exact .inr h3
        · exact .inl ⟨j, by omega, h2, h3⟩⟩
    · rename_i h
      rw [ih]
      exact ⟨fun ⟨j, h1, h2⟩ => ⟨j, by omega, h2⟩, fun ⟨j, h1, h2, h3⟩ => ⟨j, by
        by_cases e : j = k
        · subst e; exact absurd h2 h
        · omega, h2, h3⟩⟩
theorem allY_mem (ks : List Nat) (x : Bs) : ∀ k, x ∈ allY ks k ↔ ∃ j, j < k ∧ meantB ks j = true ∧ x ∈ byts (ma j)
  | 0 => by simp [allY]
  | k + 1 => by
    have ih := allY_mem ks x k
    unfold allY
    split
    · rename_i h
      rw [putAll_mem, ih]
      exact ⟨fun q => q.elim (fun ⟨j, h1, h2⟩ => ⟨j, by omega, h2⟩) (fun q => ⟨k, by omega, h, q⟩), fun ⟨j, h1, h2, h3⟩ => by
        by_cases e : j = k
        · subst e; exact .inr h3
        · exact .inl ⟨j, by omega, h2, h3⟩⟩
    · rename_i h
      rw [ih]
      exact ⟨fun ⟨j, h1, h2⟩ => ⟨j, by omega, h2⟩, fun ⟨j, h1, h2, h3⟩ => ⟨j, by
        by_cases e : j = k
        · subst e; exact absurd h2 h
        · omega, h2, h3⟩⟩
theorem allM_pw (ks : List Nat) : ∀ k, (allM ks k).Pairwise Lt
  | 0 => .nil
  | k + 1 => by unfold allM; split; exact putAll_pw _ _ (allM_pw ks k); exact allM_pw ks k
theorem allY_pw (ks : List Nat) : ∀ k, (allY ks k).Pairwise Lt
  | 0 => .nil
  | k + 1 => by unfold allY; split; exact putAll_pw _ _ (allY_pw ks k); exact allY_pw ks k
theorem byts_flat (f : Nat → List ByteArray) (l : List Nat) (x : Bs) : x ∈ byts (l.flatMap f) ↔ ∃ j, j ∈ l ∧ x ∈ byts (f j) := by
  simp only [byts, List.mem_map, List.mem_flatMap]
  constructor
  · rintro ⟨a, ⟨j, h1, h2⟩, rfl⟩; exact ⟨j, h1, a, h2, rfl⟩
  · rintro ⟨j, h1, a, h2, rfl⟩; exact ⟨a, ⟨j, h1, h2⟩, rfl⟩
theorem meant_iff {ks : List Nat} (h10 : ∀ k ∈ ks, k < 10) (f : Nat → List ByteArray) (x : Bs) : (∃ j, j < 10 ∧ meantB ks j = true ∧ x ∈ byts (f j)) ↔ ∃ k, k ∈ ks ∧ x ∈ byts ((ch k).flatMap f) := by
  constructor
  · rintro ⟨j, _, h2, h3⟩
    obtain ⟨c, hc, hj⟩ := List.any_eq_true.1 h2
    rw [abv, List.contains_iff_mem] at hj
    exact ⟨c, hc, (byts_flat f _ x).2 ⟨j, hj, h3⟩⟩
  · rintro ⟨c, hc, h⟩
    obtain ⟨j, hj, h3⟩ := (byts_flat f _ x).1 h
    exact ⟨j, ch_lt c (h10 c hc) j hj, List.any_eq_true.2 ⟨c, hc, by rw [abv, List.contains_iff_mem]; exact hj⟩, h3⟩
theorem allM_eq {ks : List Nat} (h10 : ∀ k ∈ ks, k < 10) : allM ks 10 = mustU ks :=
  ext_of_pw (allM_pw ks 10) (compact_sort_pw _) fun x => by
    show _ ↔ x ∈ mustU ks
    rw [allM_mem, mem_mustU]; exact meant_iff h10 mu x
theorem allY_eq {ks : List Nat} (h10 : ∀ k ∈ ks, k < 10) : allY ks 10 = uniq (byts (mayL ks)) :=
  ext_of_pw (allY_pw ks 10) (compact_sort_pw _) fun x => by
    show _ ↔ x ∈ uniq (byts (mayL ks))
    rw [allY_mem, mem_uniq, mem_mayL]; exact meant_iff h10 ma x
theorem allRR_res {ss : List ByteArray} {d : D} (h : AllRR ss d) : AllRes ss d := by
  unfold AllRR at h
  unfold AllRes
  by_cases hok : okAll ss = true
  · rw [if_pos hok] at h ⊢
    have h10 : ∀ k ∈ ss.map fcls, k < 10 := by
      intro k hk
      obtain ⟨s, hs, rfl⟩ := List.mem_map.1 hk
      have := List.all_eq_true.1 hok s hs
      simpa using this
    rw [allM_eq h10, allY_eq h10] at h
    exact h
  · rw [if_neg hok] at h ⊢
    exact h
theorem AllR_spec (g : Nat) (e : TypeId) (ss : List ByteArray) (he : ss = [] ∨ e = 9) (hs : ∀ s ∈ ss, s.size ≤ 140737488351232) (hl : ss.length ≤ 1000) (H : Heap) : PCalls Try.prog 21 [.slice g e (ss.map strD)] H fun d H' => AllRes ss d ∧ H' = H :=
  PCalls.liftR (G := noG) (PCalls.mono (PCalls.frozenR (AllR_local g e ss he hs hl)) fun d _ h => allRR_res h) (fun d hd => by simp only [List.mem_cons, List.mem_nil_iff, or_false] at hd; subst hd; exact pure_strs _ _ _) (fun d h => pure_allRes h) (fun g cs h => by cases h) (fun g cs h => by cases h)
/-! ### One row of classes -/
def Rel1 (d c : Nat) : Prop := kd d = 1 → kd c = 1 → apartB c d = false
theorem oneB_iff (ks : List Nat) : oneB ks = true ↔ ks.Pairwise Rel1 ∧ strK ks ≠ [] := by
  have h1 : ((List.range (strK ks).length).all (fun i => !((strK ks).take i).any (apartB ((strK ks).getD i 0)))) = true ↔ (strK ks).Pairwise fun d c => apartB c d = false := by
    rw [List.all_eq_true, List.pairwise_iff_getElem]
    constructor
    · intro h i j hi hj hij
      have := h j (List.mem_range.2 hj)
      simp only [Bool.not_eq_true', List.any_eq_false] at this
      have h2 := this ((strK ks)[i]) (by rw [List.mem_iff_getElem]; exact ⟨i, by rw [List.length_take]; omega, by rw [List.getElem_take]⟩)
      simpa [List.getD, List.getElem?_eq_getElem hj] using h2
    · intro h j hj
      have hj := List.mem_range.1 hj
      simp only [Bool.not_eq_true', List.any_eq_false]
      intro d hd
      obtain ⟨i, hi, rfl⟩ := List.getElem_of_mem hd
      rw [List.length_take] at hi
      rw [List.getElem_take]
      have := h i j (by omega) hj (by omega)
      simpa [List.getD, List.getElem?_eq_getElem hj] using this
  rw [oneB, Bool.and_eq_true, h1, strK, List.pairwise_filter]
  simp only [decide_eq_true_eq]
  constructor
  · rintro ⟨a, b⟩; exact ⟨a, by intro q; rw [q] at b; simp at b⟩
  · rintro ⟨a, b⟩; exact ⟨a, by cases hq : List.filter (fun k => decide (kd k = 1)) ks <;> simp_all⟩
end Go.Pv
