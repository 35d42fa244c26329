/- A part of the proof: functions of the program, walked, or what operations come to. -/
import Derived.Test.YtmaajijhfpdefaaPvS9a
namespace Go.Pv
open Go.Proofs
theorem grow_keep {H H' : Heap} {m : D} {e : TypeId} {l : List D} (h : Grow H m e l) (hk : ∀ j, j < H.nx → (∀ i a, m = .row i e 0 a → j = i → H'.get j = H.get j)) (hn : H.nx ≤ H'.nx) : Grow H' m e l := by
  rcases h with ⟨h1, h2⟩ | ⟨i, hi, h2, h3, h4⟩
  · exact .inl ⟨h1, h2⟩
  · exact .inr ⟨i, by omega, h2, by rw [hk i hi i _ h2 rfl]; exact h3, h4⟩
theorem grow_ok {H : Heap} {m : D} {e : TypeId} {l : List D} (h : Grow H m e l) : okPart m = true ∧ cellsD m = [m] := by
  rcases h with ⟨_, rfl⟩ | ⟨i, _, rfl, _⟩ <;> exact ⟨rfl, rfl⟩
theorem grow_row {H : Heap} {m : D} {e : TypeId} {l : List D} (h : Grow H m e l) {i a : Nat} (hm : m = .row i e 0 a) : i < H.nx ∧ H.get i = some (.row e l) := by
  rcases h with ⟨_, rfl⟩ | ⟨j, hj, rfl, h3, _⟩
  · cases hm
  · cases hm; exact ⟨hj, h3⟩
theorem flatMap_len {α β : Type} (f : α → List β) (c : Nat) (h : ∀ x, (f x).length ≤ c) : ∀ l : List α, (l.flatMap f).length ≤ c * l.length
  | [] => by simp
  | a :: l => by
    have := flatMap_len f c h l
    have := h a
    simp only [List.flatMap_cons, List.length_append, List.length_cons, Nat.mul_add, Nat.mul_one]
    omega
theorem mu_len (k : Nat) : (mu k).length ≤ 4 := by unfold mu; split <;> simp
theorem ma_len (k : Nat) : (ma k).length ≤ 4 := by unfold ma; split <;> simp
theorem ch_len (k : Nat) : (ch k).length ≤ 3 := by unfold ch; split <;> simp
def mustL (ks : List Nat) : List ByteArray := ks.flatMap fun k => (ch k).flatMap mu
def mayL (ks : List Nat) : List ByteArray := ks.flatMap fun k => (ch k).flatMap ma
theorem mustL_len (ks : List Nat) : (mustL ks).length ≤ 12 * ks.length := flatMap_len _ 12 (fun k => by have := flatMap_len mu 4 mu_len (ch k); have := ch_len k; omega) ks
theorem mayL_len (ks : List Nat) : (mayL ks).length ≤ 12 * ks.length := flatMap_len _ 12 (fun k => by have := flatMap_len ma 4 ma_len (ch k); have := ch_len k; omega) ks
/-- What All has gathered. -/
structure Gath (H : Heap) (y : D) (mus mas : List ByteArray) : Prop where
  nx : 0 < H.nx
  box : ∃ m, H.get 0 = some (.cells [m]) ∧ Grow H m 9 (lbs mus) ∧ Grow H y 9 (lbs mas) ∧ ∀ i j a b, m = .row i 9 0 a → y = .row j 9 0 b → i ≠ j
theorem gath_keep {H H' : Heap} {y : D} {mus mas : List ByteArray} (h : Gath H y mus mas) (hk : ∀ j, j < H.nx → H'.get j = H.get j) (hn : H.nx ≤ H'.nx) : Gath H' y mus mas := by
  obtain ⟨h1, m, h2, h3, h4, h5⟩ := h
  exact ⟨by omega, m, by rw [hk 0 h1]; exact h2, grow_keep h3 (fun j hj _ _ _ _ => hk j hj) hn, grow_keep h4 (fun j hj _ _ _ _ => hk j hj) hn, h5⟩
/-- Both slices grow. -/
theorem gath_step {H : Heap} {y m : D} {mus mas mu' ma' : List ByteArray} (h : Gath H y mus mas) (hm : H.get 0 = some (.cells [m])) (hb : mus.length + mu'.length ≤ 100000) (hb2 : mas.length + ma'.length ≤ 100000) :
    ∃ r1 H1 r2 H2, appK 9 16 m (some (lbs mu')) H = some (r1, H1) ∧ appK 9 16 y (some (lbs ma')) H1 = some (r2, H2) ∧ okPart r1 = true ∧ cellsD r1 = [r1] ∧ H2.get 0 = some (.cells [m]) ∧
      (∀ j, j < H.nx → (∀ e l, H.get j ≠ some (.row e l)) → H1.get j = H.get j) ∧ Gath (H2.put 0 (some (.cells [r1]))) r2 (mus ++ mu') (mas ++ ma') := by
  obtain ⟨h1, m', h2, h3, h4, h5⟩ := h
  rw [hm] at h2
  cases h2
  obtain ⟨r1, H1, a1, g1, n1, f1, k1, z1⟩ := grow_append (lbs mu') h3 (by simp [lbs]; omega)
  have f1' : ∀ j, j < H.nx → (∀ e l, H.get j ≠ some (.row e l)) → H1.get j = H.get j := fun j hj hne => f1 j hj fun i a q e => by
    subst e; exact hne _ _ (grow_row h3 q).2
  have h4' : Grow H1 y 9 (lbs mas) := grow_keep h4 (fun j hj i a q e => f1 j hj fun i2 a2 q2 e2 => h5 i2 i a2 a q2 q (by omega)) n1
  obtain ⟨r2, H2, a2, g2, n2, f2, k2, z2⟩ := grow_append (lbs ma') h4' (by simp [lbs]; omega)
  have no0 : ∀ e l, H.get 0 ≠ some (.row e l) := fun e l q => by rw [hm] at q; cases q
  have h01 : H1.get 0 = some (.cells [m]) := by rw [f1' 0 h1 no0]; exact hm
  have h02 : H2.get 0 = some (.cells [m]) := by
    rw [f2 0 (by omega) fun i a q e => ?_]
    · exact h01
    · subst e
      have := (grow_row h4' q).2
      rw [h01] at this; cases this
  have sep1 : ∀ i j a b, r1 = .row i 9 0 a → y = .row j 9 0 b → i ≠ j := by
    intro i j a b q1 q2 e
    have hj := (grow_row h4 q2).1
    by_cases hN : lbs mu' = []
    · rw [(z1 hN).1] at q1
      exact h5 i j a b q1 q2 e
    · obtain ⟨a3, q3⟩ := k1 hN
      rw [q3] at q1
      cases q1
      omega
  have not0 : ∀ {H' : Heap} {r : D} {l : List D} {i a : Nat}, Grow H' r 9 l → H'.get 0 = some (.cells [m]) → r = .row i 9 0 a → i ≠ 0 := by
    intro H' r l i a g h0 q e
    subst e
    have := (grow_row g q).2
    rw [h0] at this; cases this
  have app : ∀ a b : List ByteArray, lbs a ++ lbs b = lbs (a ++ b) := fun a b => by simp [lbs]
  rw [app] at g1 g2
  refine ⟨r1, H1, r2, H2, a1, a2, (grow_ok g1).1, (grow_ok g1).2, h02, f1', ⟨?_, r1, Heap.put_same _ _ _, ?_, ?_, ?_⟩⟩
  · show 0 < H2.nx; omega
  · refine grow_keep g1 (fun j hj i a q e => ?_) n2
    subst e
    rw [Heap.put_ne _ _ (not0 g1 h01 q)]
    exact f2 j hj fun i2 a2 q2 => sep1 j i2 a a2 q q2
  · refine grow_keep g2 (fun j hj i a q e => ?_) (Nat.le_refl _)
    subst e
    exact Heap.put_ne _ _ (not0 g2 h02 q)
  · intro i j a b q1 q2 e
    by_cases hN : lbs ma' = []
    · rw [(z2 hN).1] at q2
      exact sep1 i j a b q1 q2 e
    · obtain ⟨a3, q3⟩ := k2 hN
      rw [q3] at q2
      have := (grow_row g1 q1).1
      cases q2
      omega
end Go.Pv
