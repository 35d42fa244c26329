/- Functions of the program, walked. -/
import Derived.Test.YtmaajijhfpdefaaPwT3
namespace Go.Pw
open Go.Proofs
@[simp] theorem oneD_slD (l : List ByteArray) : oneD (slD l) = true := by cases l <;> rfl
@[simp] theorem okPart_slD (l : List ByteArray) : okPart (slD l) = true := by cases l <;> rfl
@[simp] theorem cellsD_slD (l : List ByteArray) : cellsD (slD l) = [slD l] := by cases l <;> rfl
@[simp] theorem slD_nil : slD [] = .slice 1 0 [] := rfl
set_option maxRecDepth 100000 in
theorem FindClass_spec (s : ByteArray) (H : Heap) (hs : s.size ≤ 140737488351232) : PCalls Try.prog 10 [.val (.string s)] H fun d H' => d = .tup [(findC s).1.row, .val (.bool (findC s).2)] ∧ H' = H := by
  refine PCalls.of_pwp Try.call10 Try.func10 rfl (by simp [Try.ntmps10]) ?_
  rw [Try.ntmps10]
  repeat refine seq_k fun K hK => ?_
  refine region_k rfl fun K1 hK1 => ?_
  simp
  intro i i2 hi
  refine hK1 _ (hK _ ?_)
  clear hK1 hK K K1
  repeat refine seq_k fun K hK => ?_
  refine region_k rfl fun K1 hK1 => ?_
  simp
  refine PCalls.mono (Lower_spec s _ hs) ?_
  rintro _ _ ⟨rfl, rfl⟩
  simp
  refine hK1 _ (hK _ ?_)
  clear hK1 hK K K1
  repeat refine seq_k fun K hK => ?_
  refine region_k rfl fun K1 hK1 => ?_
  simp
  refine PCalls.mono (Classes_spec _) ?_
  rintro _ _ ⟨rfl, rfl⟩
  simp [classes_len]
  refine hK1 _ (hK _ ?_)
  clear hK1 hK K K1
  refine pwp_block (pwp_loop (fun m st => ∃ k, k ≤ 10 ∧ m = 10 - k ∧ st.env 0 = .val (.string s) ∧ st.env 4 = .val (.string (lowS s)) ∧ st.env 9 = .slice 0 31 (classes.map ClassT.row) ∧ st.env 10 = .val (.int .i64 10) ∧ st.env 11 = .val (.int .i64 k) ∧
    st.env 2 = .ptr i 0 ∧ (∃ cs, st.H i = some (.cells cs) ∧ cs.length = 6) ∧ Ext H st.H ∧ classes.find? (hitC s) = (classes.drop k).find? (hitC s)) 10 ?_ ?_)
  · refine ⟨0, by omega, by omega, by simp, by simp, by simp, by simp, by simp, by simp, ⟨_, by simp; rfl, by simp⟩, (Ext.refl H).put hi _, by simp⟩
  · rintro m st ⟨k, hk, rfl, e0, e4, e9, e10, e11, e2, ⟨cs, eH, eL⟩, eO, eF⟩
    repeat refine seq_k fun K hK => ?_
    refine region_k rfl fun K1 hK1 => ?_
    simp [e10, e11]
    refine hK1 _ (hK _ ?_)
    clear hK1 hK K K1
    repeat refine seq_k fun K hK => ?_
    refine cond_b (by simp) (fun h => ?_) (fun h => ?_)
    · simp at h
      have hk10 : k < 10 := by omega
      refine pwp_skip ?_
      refine hK _ ?_
      clear hK K
      obtain ⟨x, hx⟩ : ∃ x, classes[k]? = some x := ⟨classes[k]'(by rw [classes_len]; exact hk10), List.getElem?_eq_getElem _⟩
      have hxs := classes_small x (List.mem_of_getElem? hx)
      have hf := find_drop hx eF
      have hx' : ∀ h, classes[k]'h = x := fun h => (List.getElem?_eq_some_iff.1 hx).2
      refine seq_k fun K hK => pwp_block ?_
      repeat refine seq_k fun K hK => ?_
      refine region_k rfl fun K1 hK1 => ?_
      simp [e9, e11, hx', classes_len, h, hk10, ClassT.row]
      intro j j2 hj
      refine hK1 _ (hK _ ?_)
      clear hK1 hK K K1
      refine seq_k fun Kz hKz => ?_
      have fin : ∀ (st' : PSt) (b : Bool), st'.env 25 = .val (.bool b) → b = hitC s x → st'.env 0 = .val (.string s) → st'.env 4 = .val (.string (lowS s)) → st'.env 9 = .slice 0 31 (classes.map ClassT.row) → st'.env 10 = .val (.int .i64 10) →
          st'.env 11 = .val (.int .i64 k) → st'.env 2 = .ptr i 0 → st'.env 6 = .ptr j 0 → st'.H = st.H.put j (some (.cells (cellsD x.row))) → Kz st' := by
        intro st' b f25 fb f0 f4 f9 f10 f11 f2 f6 fH
        refine hKz _ ?_
        have hji : i ≠ j := by rintro rfl; rw [hj] at eH; cases eH
        have hij : j ≠ i := fun e => hji e.symm
        have hHj : H j = none := eO.none hj
        refine cond_k (by simp [f25]; rfl) (fun hb => ?_) (fun hb => ?_)
        · subst hb
          rw [← fb] at hf
          simp at hf
          repeat refine seq_k fun K hK => ?_
          refine region_k rfl fun K1 hK1 => ?_
          simp [f6, f2, fH, ClassT.row, Heap.put_ne _ _ hji, eH, eL]
          refine hK1 _ (hK _ ?_)
          clear hK1 hK K K1
          refine pwp_ret ?_
          simp [f2, findC, hf, ClassT.row]
          exact (eO.put hHj _).put hi _
        · subst hb
          rw [← fb] at hf
          refine pwp_skip (hK _ ?_)
          refine region_k rfl fun K1 hK1 => ?_
          simp [f11]
          refine hK1 _ ⟨10 - (k + 1), by omega, k + 1, by omega, rfl, ?_⟩
          have hw := wrapSucc k (by omega)
          simp [f0, f4, f9, f10, f2, hw, fH, Heap.put_ne _ _ hji, eH, eL]
          refine ⟨eO.put hHj _, ?_⟩
          simpa using hf
      clear hKz hK
      refine region_k rfl fun K1 hK1 => ?_
      simp [e4]
      refine PCalls.mono (Lower_spec x.n _ hxs) ?_
      rintro _ _ ⟨rfl, rfl⟩
      simp
      by_cases c1 : (lowS s).data = (lowS x.n).data
      · have c1 := eq_true c1
        simp [c1]
        exact hK1 _ (fin _ true (by simp) (by simp [hitC, c1]) (by simp [e0]) (by simp [e4]) (by simp [e9]) (by simp [e10]) (by simp [e11]) (by simp [e2]) (by simp) (by simp [ClassT.row]))
      · have c1 := eq_false c1
        simp [c1, e0]
        exact hK1 _ (fin _ _ (by simp; rfl) (by simp [hitC, c1]) (by simp [e0]) (by simp [e4]) (by simp [e9]) (by simp [e10]) (by simp [e11]) (by simp [e2]) (by simp) (by simp [ClassT.row]))
    · have hk10 : k = 10 := by simp at h; omega
      subst hk10
      refine pwp_exit ?_
      simp
      clear hK K
      refine hK _ ?_
      clear hK K
      have hf : classes.find? (hitC s) = none := by rw [eF]; rfl
      repeat refine seq_k fun K hK => ?_
      refine region_k rfl fun K1 hK1 => ?_
      simp [e2, eH, eL]
      refine hK1 _ (hK _ ?_)
      clear hK1 hK K K1
      refine pwp_ret ?_
      simp [e2, findC, hf, ClassT.row, noC]
      exact eO.put hi _

set_option maxRecDepth 100000 in
theorem RefFindClass_spec (s : ByteArray) (H : Heap) (hs : s.size ≤ 140737488351232) : PCalls Try.prog 11 [.val (.string s)] H fun d H' => d = .tup [(findC s).1.row, .val (.bool (findC s).2)] ∧ H' = H := by
  refine PCalls.of_pwp Try.call11 Try.func11 rfl (by simp [Try.ntmps11]) ?_
  rw [Try.ntmps11]
  repeat refine seq_k fun K hK => ?_
  refine region_k rfl fun K1 hK1 => ?_
  simp
  intro i i2 hi
  refine hK1 _ (hK _ ?_)
  clear hK1 hK K K1
  repeat refine seq_k fun K hK => ?_
  refine region_k rfl fun K1 hK1 => ?_
  simp
  refine PCalls.mono (RefClasses_spec _) ?_
  rintro _ _ ⟨rfl, rfl⟩
  simp
  refine hK1 _ (hK _ ?_)
  clear hK1 hK K K1
  repeat refine seq_k fun K hK => ?_
  refine region_k rfl fun K1 hK1 => ?_
  simp
  refine PCalls.mono (RefLower_spec s _ hs) ?_
  rintro _ _ ⟨rfl, rfl⟩
  simp
  refine hK1 _ (hK _ ?_)
  clear hK1 hK K K1
  repeat refine seq_k fun K hK => ?_
  refine region_k rfl fun K1 hK1 => ?_
  simp
  refine hK1 _ (hK _ ?_)
  clear hK1 hK K K1
  refine pwp_block (pwp_loop (fun m st => ∃ k, k ≤ 10 ∧ m = 10 - k ∧ st.env 0 = .val (.string s) ∧ st.env 5 = .val (.string (lowS s)) ∧ st.env 4 = .slice 0 34 (classes.map ClassT.row) ∧ st.env 6 = .val (.int .i64 k) ∧
    st.env 2 = .ptr i 0 ∧ (∃ cs, st.H i = some (.cells cs) ∧ cs.length = 6) ∧ Ext H st.H ∧ classes.find? (hitC s) = (classes.drop k).find? (hitC s)) 10 ?_ ?_)
  · refine ⟨0, by omega, by omega, by simp, by simp, by simp, by simp, by simp, ⟨_, by simp; rfl, by simp⟩, (Ext.refl H).put hi _, by simp⟩
  · rintro m st ⟨k, hk, rfl, e0, e5, e4, e6, e2, ⟨cs, eH, eL⟩, eO, eF⟩
    repeat refine seq_k fun K hK => ?_
    refine region_k rfl fun K1 hK1 => ?_
    simp [e4, e6, classes_len]
    refine hK1 _ (hK _ ?_)
    clear hK1 hK K K1
    repeat refine seq_k fun K hK => ?_
    refine cond_b (by simp) (fun h => ?_) (fun h => ?_)
    · simp at h
      have hk10 : k < 10 := by omega
      refine pwp_skip ?_
      refine hK _ ?_
      clear hK K
      obtain ⟨x, hx⟩ : ∃ x, classes[k]? = some x := ⟨classes[k]'(by rw [classes_len]; exact hk10), List.getElem?_eq_getElem _⟩
      have hxs := classes_small x (List.mem_of_getElem? hx)
      have hf := find_drop hx eF
      have hx' : ∀ h, classes[k]'h = x := fun h => (List.getElem?_eq_some_iff.1 hx).2
      refine seq_k fun K hK => pwp_block ?_
      refine seq_k fun Kz hKz => ?_
      have fin : ∀ (st' : PSt) (b : Bool), st'.env 32 = .val (.bool b) → b = hitC s x → st'.env 0 = .val (.string s) → st'.env 5 = .val (.string (lowS s)) → st'.env 4 = .slice 0 34 (classes.map ClassT.row) →
          st'.env 6 = .val (.int .i64 k) → st'.env 2 = .ptr i 0 → st'.H = st.H → Kz st' := by
        intro st' b f32 fb f0 f5 f4 f6 f2 fH
        refine hKz _ ?_
        refine cond_k (by simp [f32]; rfl) (fun hb => ?_) (fun hb => ?_)
        · subst hb
          rw [← fb] at hf
          simp at hf
          repeat refine seq_k fun K hK => ?_
          refine region_k rfl fun K1 hK1 => ?_
          simp [f4, f6, f2, fH, hx', classes_len, h, hk10, ClassT.row, eH, eL]
          refine hK1 _ (hK _ ?_)
          clear hK1 hK K K1
          refine pwp_ret ?_
          simp [f2, findC, hf, ClassT.row]
          exact eO.put hi _
        · subst hb
          rw [← fb] at hf
          refine pwp_skip (hK _ ?_)
          refine region_k rfl fun K1 hK1 => ?_
          simp [f6]
          refine hK1 _ ⟨10 - (k + 1), by omega, k + 1, by omega, rfl, ?_⟩
          have hw := wrapSucc k (by omega)
          simp [f0, f4, f5, f2, hw, fH, eH, eL]
          refine ⟨eO, ?_⟩
          simpa using hf
      clear hKz hK
      refine region_k rfl fun K1 hK1 => ?_
      simp [e4, e5, e6, hx', classes_len, h, hk10, ClassT.row]
      refine PCalls.mono (RefLower_spec x.n _ hxs) ?_
      rintro _ _ ⟨rfl, rfl⟩
      simp
      by_cases c1 : (lowS s).data = (lowS x.n).data
      · have c1 := eq_true c1
        simp [c1]
        exact hK1 _ (fin _ true (by simp) (by simp [hitC, c1]) (by simp [e0]) (by simp [e5]) (by simp [e4]) (by simp [e6]) (by simp [e2]) rfl)
      · have c1 := eq_false c1
        simp [c1, e0, e4, e6, hx', classes_len, h, hk10, ClassT.row]
        exact hK1 _ (fin _ _ (by simp; rfl) (by simp [hitC, c1]) (by simp [e0]) (by simp [e5]) (by simp [e4]) (by simp [e6]) (by simp [e2]) rfl)
    · have hk10 : k = 10 := by simp at h; omega
      subst hk10
      refine pwp_exit ?_
      simp
      clear hK K
      refine hK _ ?_
      clear hK K
      have hf : classes.find? (hitC s) = none := by rw [eF]; rfl
      repeat refine seq_k fun K hK => ?_
      refine region_k rfl fun K1 hK1 => ?_
      simp [e2, eH, eL]
      refine hK1 _ (hK _ ?_)
      clear hK1 hK K K1
      refine pwp_ret ?_
      simp [e2, findC, hf, ClassT.row, noC]
      exact eO.put hi _
end Go.Pw
