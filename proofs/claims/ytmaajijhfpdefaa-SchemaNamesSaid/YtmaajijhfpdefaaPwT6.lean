/- Functions of the program, walked. -/
import Derived.Test.YtmaajijhfpdefaaPwT5
import Derived.Test.YtmaajijhfpdefaaPwLaw
namespace Go.Pw
open Go.Proofs
@[simp] theorem fk23 : flatKinds Try.prog 23 = some [.s, .s, .s, .i, .b] := by kernel_rfl
@[simp] theorem fk26 : flatKinds Try.prog 26 = some [.s, .s, .s, .i, .b] := by kernel_rfl
theorem sameB_self (a : List ByteArray) : sameB a a = true := by simp [sameB]
theorem classB_self (x : ClassT) : classB x x = true := by simp [classB, sameB_self]
theorem classes_short : ∀ x ∈ classes, x.must.length ≤ 1000 ∧ x.may.length ≤ 1000 := by decide
theorem findC_short (s : ByteArray) : (findC s).1.must.length ≤ 1000 ∧ (findC s).1.may.length ≤ 1000 := by
  unfold findC
  cases h : classes.find? (hitC s) with
  | none => simp [noC]
  | some x => exact classes_short x (List.mem_of_find?_eq_some h)
theorem putNe {H : Heap} {i j : Nat} {o : Option PObj} (h : j ≠ i) : (H.put i o) j = H j := Heap.put_ne _ _ h

structure LI (t : ByteArray) (i3 i5 i7 i9 : Nat) (st : PSt) : Prop where
  e3 : st.env 3 = .ptr i3 0
  e5 : st.env 5 = .ptr i5 0
  e7 : st.env 7 = .ptr i7 0
  e9 : st.env 9 = .ptr i9 0
  e4 : st.env 4 = .val (.bool (findA t).2)
  e6 : st.env 6 = .val (.bool (findA t).2)
  e8 : st.env 8 = .val (.bool (findC t).2)
  e10 : st.env 10 = .val (.bool (findC t).2)
  e11 : st.env 11 = .slice 0 23 (attrs.map AttrT.row)
  e12 : st.env 12 = .slice 0 26 (attrs.map AttrT.row)
  e13 : st.env 13 = .slice 0 31 (classes.map ClassT.row)
  e14 : st.env 14 = .slice 0 34 (classes.map ClassT.row)
  h3 : st.H i3 = some (.cells (cellsD (findA t).1.row))
  h5 : st.H i5 = some (.cells (cellsD (findA t).1.row))
  h7 : st.H i7 = some (.cells (cellsD (findC t).1.row))
  h9 : st.H i9 = some (.cells (cellsD (findC t).1.row))

set_option maxRecDepth 100000 in
theorem SchemaFinds_walk (s : ByteArray) (hs : s.size ≤ 140737488351232) : PCalls Try.prog 3 [.val (.string s)] noHeap fun d _ => d = .val (.bool true) := by
  refine PCalls.of_pwp Try.call3 Try.func3 rfl (by simp [Try.ntmps3]) ?_
  rw [Try.ntmps3]
  repeat refine seq_k fun K hK => ?_
  refine region_k rfl fun K1 hK1 => ?_
  simp
  refine hK1 _ (hK _ ?_)
  clear hK1 hK K K1
  repeat refine seq_k fun K hK => ?_
  refine region_k rfl fun K1 hK1 => ?_
  simp
  refine hK1 _ (hK _ ?_)
  clear hK1 hK K K1
  repeat refine seq_k fun K hK => ?_
  have go : ∀ (st : PSt) (t : ByteArray), t.size ≤ 140737488351232 → st.env 0 = .val (.string t) → st.H = noHeap → K st := by
    intro st t ht e0 eH
    refine hK _ ?_
    clear hK K
    repeat refine seq_k fun K hK => ?_
    refine region_k rfl fun K1 hK1 => ?_
    simp [e0]
    refine PCalls.mono (Find_spec t _ ht) ?_
    rintro _ _ ⟨rfl, rfl⟩
    simp [AttrT.row]
    intro i3 j3 n3
    refine hK1 _ (hK _ ?_)
    clear hK1 hK K K1
    repeat refine seq_k fun K hK => ?_
    refine region_k rfl fun K1 hK1 => ?_
    simp [e0]
    refine PCalls.mono (RefFind_spec t _ ht) ?_
    rintro _ _ ⟨rfl, rfl⟩
    simp [AttrT.row]
    intro i5 j5 n5
    refine hK1 _ (hK _ ?_)
    clear hK1 hK K K1
    repeat refine seq_k fun K hK => ?_
    refine region_k rfl fun K1 hK1 => ?_
    simp [e0]
    refine PCalls.mono (FindClass_spec t _ ht) ?_
    rintro _ _ ⟨rfl, rfl⟩
    simp [ClassT.row]
    intro i7 j7 n7
    refine hK1 _ (hK _ ?_)
    clear hK1 hK K K1
    repeat refine seq_k fun K hK => ?_
    refine region_k rfl fun K1 hK1 => ?_
    simp [e0]
    refine PCalls.mono (RefFindClass_spec t _ ht) ?_
    rintro _ _ ⟨rfl, rfl⟩
    simp [ClassT.row]
    intro i9 j9 n9
    refine hK1 _ (hK _ ?_)
    clear hK1 hK K K1
    repeat refine seq_k fun K hK => ?_
    refine region_k rfl fun K1 hK1 => ?_
    simp
    refine PCalls.mono (Attributes_spec _) ?_
    rintro _ _ ⟨rfl, rfl⟩
    simp
    refine PCalls.mono (RefAttributes_spec _) ?_
    rintro _ _ ⟨rfl, rfl⟩
    simp
    refine hK1 _ (hK _ ?_)
    clear hK1 hK K K1
    repeat refine seq_k fun K hK => ?_
    refine region_k rfl fun K1 hK1 => ?_
    simp
    refine PCalls.mono (Classes_spec _) ?_
    rintro _ _ ⟨rfl, rfl⟩
    simp
    refine PCalls.mono (RefClasses_spec _) ?_
    rintro _ _ ⟨rfl, rfl⟩
    simp
    refine hK1 _ (hK _ ?_)
    clear hK1 hK K K1
    repeat refine seq_k fun K hK => ?_
    refine region_k rfl fun K1 hK1 => ?_
    simp [attrs_len, classes_len]
    refine hK1 _ (hK _ ?_)
    clear hK1 hK K K1
    refine cond_b (by simp) (fun h => by simp at h) (fun _ => ?_)
    refine pwp_skip ?_
    refine hK _ ?_
    clear hK K
    repeat refine seq_k fun K hK => ?_
    refine region_k rfl fun K1 hK1 => ?_
    simp
    refine hK1 _ (hK _ ?_)
    clear hK1 hK K K1
    refine pwp_block (pwp_loop (fun m st => ∃ k, k ≤ 20 ∧ m = 20 - k ∧ LI t i3 i5 i7 i9 st ∧ st.env 15 = .val (.int .i64 k)) 20 ?_ ?_)
    · obtain ⟨d53, n5⟩ := put_none n5
      obtain ⟨d75, n7⟩ := put_none n7
      obtain ⟨d73, n7⟩ := put_none n7
      obtain ⟨d97, n9⟩ := put_none n9
      obtain ⟨d95, n9⟩ := put_none n9
      obtain ⟨d93, n9⟩ := put_none n9
      refine ⟨0, by omega, by omega, ?_, by simp⟩
      constructor <;> simp [putNe d53, putNe d75, putNe d73, putNe d97, putNe d95, putNe d93, putNe d53.symm, putNe d75.symm, putNe d73.symm, putNe d97.symm, putNe d95.symm, putNe d93.symm, AttrT.row, ClassT.row]
    · rintro m st ⟨k, hk, rfl, L, e15⟩
      repeat refine seq_k fun K hK => ?_
      refine region_k rfl fun K1 hK1 => ?_
      simp [L.e11, e15, attrs_len]
      refine hK1 _ (hK _ ?_)
      clear hK1 hK K K1
      repeat refine seq_k fun K hK => ?_
      refine cond_b (by simp) (fun h => ?_) (fun h => ?_)
      · simp at h
        have hk20 : k < 20 := by omega
        refine pwp_skip ?_
        refine hK _ ?_
        clear hK K
        obtain ⟨x, hx⟩ : ∃ x, attrs[k]? = some x := ⟨attrs[k]'(by rw [attrs_len]; exact hk20), List.getElem?_eq_getElem _⟩
        have hx' : ∀ h, attrs[k]'h = x := fun h => (List.getElem?_eq_some_iff.1 hx).2
        refine seq_k fun K hK => pwp_block ?_
        repeat refine seq_k fun K hK => ?_
        refine region_draw_k mixedO rfl (by kernel_rfl) fun K1 hK1 => ?_
        simp [L.e11, L.e12, e15, hx', attrs_len, h, hk20, AttrT.row]
        refine hK1 _ (hK _ ?_)
        clear hK1 hK K K1
        refine cond_b (by simp) (fun h => by simp at h) (fun _ => ?_)
        refine pwp_skip (hK _ ?_)
        refine region_k rfl fun K1 hK1 => ?_
        simp [e15]
        refine hK1 _ ⟨20 - (k + 1), by omega, k + 1, by omega, rfl, ?_⟩
        have hw := wrapSucc k (by omega)
        refine ⟨?_, by simp [hw]⟩
        constructor <;> simp [L.e3, L.e5, L.e7, L.e9, L.e4, L.e6, L.e8, L.e10, L.e11, L.e12, L.e13, L.e14, L.h3, L.h5, L.h7, L.h9]
      · refine pwp_exit ?_
        simp
        clear hK K
        refine hK _ ?_
        clear hK K
        repeat refine seq_k fun K hK => ?_
        refine region_k rfl fun K1 hK1 => ?_
        simp
        refine hK1 _ (hK _ ?_)
        clear hK1 hK K K1
        refine pwp_block (pwp_loop (fun m st => ∃ k, k ≤ 10 ∧ m = 10 - k ∧ LI t i3 i5 i7 i9 st ∧ st.env 16 = .val (.int .i64 k)) 10 ?_ ?_)
        · refine ⟨0, by omega, by omega, ?_, by simp⟩
          constructor <;> simp [L.e3, L.e5, L.e7, L.e9, L.e4, L.e6, L.e8, L.e10, L.e11, L.e12, L.e13, L.e14, L.h3, L.h5, L.h7, L.h9]
        · clear L hk e15 h
          rintro m st ⟨k, hk, rfl, L, e16⟩
          repeat refine seq_k fun K hK => ?_
          refine region_k rfl fun K1 hK1 => ?_
          simp [L.e13, e16, classes_len]
          refine hK1 _ (hK _ ?_)
          clear hK1 hK K K1
          repeat refine seq_k fun K hK => ?_
          refine cond_b (by simp) (fun h => ?_) (fun h => ?_)
          · simp at h
            have hk20 : k < 10 := by omega
            refine pwp_skip ?_
            refine hK _ ?_
            clear hK K
            obtain ⟨x, hx⟩ : ∃ x, classes[k]? = some x := ⟨classes[k]'(by rw [classes_len]; exact hk20), List.getElem?_eq_getElem _⟩
            have hx' : ∀ h, classes[k]'h = x := fun h => (List.getElem?_eq_some_iff.1 hx).2
            have hsh := classes_short x (List.mem_of_getElem? hx)
            refine seq_k fun K hK => pwp_block ?_
            repeat refine seq_k fun K hK => ?_
            refine region_draw_k mixedO rfl (by kernel_rfl) fun K1 hK1 => ?_
            simp [L.e13, L.e14, e16, hx', classes_len, h, hk20, ClassT.row]
            refine PCalls.mono (class_spec x x _ hsh.1 hsh.2 hsh.1 hsh.2) ?_
            rintro _ _ ⟨rfl, rfl⟩
            simp [classB_self]
            refine hK1 _ (hK _ ?_)
            clear hK1 hK K K1
            refine cond_b (by simp) (fun h => by simp at h) (fun _ => ?_)
            refine pwp_skip (hK _ ?_)
            refine region_k rfl fun K1 hK1 => ?_
            simp [e16]
            refine hK1 _ ⟨10 - (k + 1), by omega, k + 1, by omega, rfl, ?_⟩
            have hw := wrapSucc k (by omega)
            refine ⟨?_, by simp [hw]⟩
            constructor <;> simp [L.e3, L.e5, L.e7, L.e9, L.e4, L.e6, L.e8, L.e10, L.e11, L.e12, L.e13, L.e14, L.h3, L.h5, L.h7, L.h9]
          · refine pwp_exit ?_
            simp
            clear hK K
            refine hK _ ?_
            clear hK K
            have hf := findC_short t
            repeat refine seq_k fun K hK => ?_
            refine region_k rfl fun K1 hK1 => ?_
            simp [L.e3, L.e5, L.h3, L.h5, AttrT.row, L.e4, L.e6, L.e7, L.e9, L.h7, L.h9, ClassT.row]
            refine PCalls.mono (class_spec (findC t).1 (findC t).1 _ hf.1 hf.2 hf.1 hf.2) ?_
            rintro _ _ ⟨rfl, rfl⟩
            simp [classB_self, L.e8, L.e10, L.e11, attrs_len]
            refine hK1 _ (hK _ ?_)
            clear hK1 hK K K1
            refine pwp_ret ?_
            simp only [thenP_ret, inBlockP_ret, retPost, resultsD, results1, tupD]
            exact ⟨_, fun _ _ h => h, rfl⟩
  refine cond_b (by simp) (fun h => ?_) (fun h => ?_)
  · simp at h
    refine region_k rfl fun K1 hK1 => ?_
    simp
    refine ⟨by omega, hK1 _ (go _ ⟨(s.data.toList.take 300).toArray⟩ ?_ (by simp) rfl)⟩
    show (s.data.toList.take 300).toArray.size ≤ _
    rw [List.size_toArray, List.length_take]
    omega
  · refine pwp_skip (go _ s hs (by simp) rfl)
end Go.Pw
