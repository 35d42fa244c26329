/- A part of the proof: functions of the program, walked, or what operations come to. -/
import Derived.Test.YtmaajijhfpdefaaPvS8
namespace Go.Pv
open Go.Proofs
/-- Appending to what may grow. -/
theorem grow_append {H : Heap} {m : D} {A : List D} (N : List D) (hm : Grow H m 9 A) (hb : (A.length + N.length) * 16 ≤ 140737488355328) : ∃ r H1, appK 9 16 m (some N) H = some (r, H1) ∧ Grow H1 r 9 (A ++ N) ∧ H.nx ≤ H1.nx ∧
    (∀ j, j < H.nx → (∀ i a, m = .row i 9 0 a → j ≠ i) → H1.get j = H.get j) ∧ (N ≠ [] → ∃ a, r = .row H.nx 9 0 a) ∧ (N = [] → r = m ∧ H1 = H) := by
  by_cases hN : N = []
  · subst hN
    refine ⟨m, H, ?_, by rw [List.append_nil]; exact hm, Nat.le_refl _, fun _ _ _ => rfl, fun q => absurd rfl q, fun _ => ⟨rfl, rfl⟩⟩
    rcases hm with ⟨_, rfl⟩ | ⟨i, _, rfl, _⟩ <;> rfl
  · have hNe : N.isEmpty = false := by cases N <;> simp_all
    rcases hm with ⟨rfl, rfl⟩ | ⟨i, hi, rfl, hH, hA⟩
    · refine ⟨.row H.nx 9 0 N.length, H.new (.row 9 N), ?_, ?_, by simp, fun j hj _ => Heap.new_ne _ _ (by omega), fun _ => ⟨_, rfl⟩, fun q => absurd q hN⟩
      · have hb' : N.length * 16 ≤ 140737488355328 := by simpa using hb
        simp [appK, isSliceD, hN, onto, hb']
      · exact .inr ⟨H.nx, by simp, by simp, by simp, by simpa using hN⟩
    · refine ⟨.row H.nx 9 0 (A.length + N.length), (H.put i none).new (.row 9 (A ++ N)), ?_, ?_, by simp, fun j hj hne => ?_, fun _ => ⟨_, rfl⟩, fun q => absurd q hN⟩
      · simp [appK, isSliceD, hN, onto, hH, hb]
      · exact .inr ⟨H.nx, by simp, by simp, Heap.new_same (H.put i none) _, by simp [hN]⟩
      · rw [Heap.new_ne _ _ (by simp; omega), Heap.put_ne _ _ (hne i _ rfl)]
end Go.Pv
