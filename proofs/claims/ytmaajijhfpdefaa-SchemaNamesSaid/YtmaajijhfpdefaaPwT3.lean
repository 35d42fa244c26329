/- Functions of the program, walked. -/
import Derived.Test.YtmaajijhfpdefaaPwT1
import Derived.Test.YtmaajijhfpdefaaPwT2
namespace Go.Pw
open Go.Proofs
def hitA (s : ByteArray) (x : AttrT) : Bool := decide ((lowS s).data = (lowS x.n).data) || (decide ((lowS s).data ≠ #[]) && decide ((lowS s).data = (lowS x.a).data)) || decide (s.data = x.o.data)
def hitC (s : ByteArray) (x : ClassT) : Bool := decide ((lowS s).data = (lowS x.n).data) || decide (s.data = x.o.data)
def noA : AttrT := ⟨⟨#[]⟩, ⟨#[]⟩, ⟨#[]⟩, 0, false⟩
def noC : ClassT := ⟨⟨#[]⟩, ⟨#[]⟩, ⟨#[]⟩, 0, [], []⟩
def findA (s : ByteArray) : AttrT × Bool := match attrs.find? (hitA s) with | some x => (x, true) | none => (noA, false)
def findC (s : ByteArray) : ClassT × Bool := match classes.find? (hitC s) with | some x => (x, true) | none => (noC, false)
theorem attrs_len : attrs.length = 20 := rfl
theorem classes_len : classes.length = 10 := rfl
theorem attrs_small : ∀ x ∈ attrs, x.n.size ≤ 140737488351232 ∧ x.a.size ≤ 140737488351232 := by decide
theorem classes_small : ∀ x ∈ classes, x.n.size ≤ 140737488351232 := by decide
theorem find_drop {α : Type} {l : List α} {p : α → Bool} {k : Nat} {x : α} (hx : l[k]? = some x) (h : l.find? p = (l.drop k).find? p) : l.find? p = if p x then some x else (l.drop (k + 1)).find? p := by
  obtain ⟨hk, rfl⟩ := List.getElem?_eq_some_iff.1 hx
  rw [h, List.drop_eq_getElem_cons hk, List.find?_cons]
  cases p l[k] <;> rfl

set_option maxRecDepth 100000 in
theorem Find_spec (s : ByteArray) (H : Heap) (hs : s.size ≤ 140737488351232) : PCalls Try.prog 8 [.val (.string s)] H fun d H' => d = .tup [(findA s).1.row, .val (.bool (findA s).2)] ∧ H' = H := by
  refine PCalls.of_pwp Try.call8 Try.func8 rfl (by simp [Try.ntmps8]) ?_
  rw [Try.ntmps8]
  repeat refine seq_k fun K hK => ?_
  refine region_k rfl fun K1 hK1 => ?_
  simp
  intro i i2 hi
  refine hK1 _ (hK _ ?_)
  clear hK1 hK K K1
  repeat refine seq_k fun K hK => ?_
  refine region_k rfl fun K1 hK1 => ?_
  simp
  refine PCalls.mono (Lower_spec s _ hs) ?_
  rintro _ _ ⟨rfl, rfl⟩
  simp
  refine hK1 _ (hK _ ?_)
  clear hK1 hK K K1
  repeat refine seq_k fun K hK => ?_
  refine region_k rfl fun K1 hK1 => ?_
  simp
  refine PCalls.mono (Attributes_spec _) ?_
  rintro _ _ ⟨rfl, rfl⟩
  simp [attrs_len]
  refine hK1 _ (hK _ ?_)
  clear hK1 hK K K1
  refine pwp_block (pwp_loop (fun m st => ∃ k, k ≤ 20 ∧ m = 20 - k ∧ st.env 0 = .val (.string s) ∧ st.env 4 = .val (.string (lowS s)) ∧ st.env 9 = .slice 0 23 (attrs.map AttrT.row) ∧ st.env 10 = .val (.int .i64 20) ∧ st.env 11 = .val (.int .i64 k) ∧
    st.env 2 = .ptr i 0 ∧ (∃ cs, st.H i = some (.cells cs) ∧ cs.length = 5) ∧ Ext H st.H ∧ attrs.find? (hitA s) = (attrs.drop k).find? (hitA s)) 20 ?_ ?_)
  · refine ⟨0, by omega, by omega, by simp, by simp, by simp, by simp, by simp, by simp, ⟨_, by simp; rfl, by simp⟩, (Ext.refl H).put hi _, by simp⟩
  · rintro m st ⟨k, hk, rfl, e0, e4, e9, e10, e11, e2, ⟨cs, eH, eL⟩, eO, eF⟩
    repeat refine seq_k fun K hK => ?_
    refine region_k rfl fun K1 hK1 => ?_
    simp [e10, e11]
    refine hK1 _ (hK _ ?_)
    clear hK1 hK K K1
    repeat refine seq_k fun K hK => ?_
    refine cond_b (by simp) (fun h => ?_) (fun h => ?_)
    · simp at h
      have hk20 : k < 20 := by omega
      refine pwp_skip ?_
      refine hK _ ?_
      clear hK K
      obtain ⟨x, hx⟩ : ∃ x, attrs[k]? = some x := ⟨attrs[k]'(by rw [attrs_len]; exact hk20), List.getElem?_eq_getElem _⟩
      have hxs := attrs_small x (List.mem_of_getElem? hx)
      have hf := find_drop hx eF
      have hx' : ∀ h, attrs[k]'h = x := fun h => (List.getElem?_eq_some_iff.1 hx).2
      refine seq_k fun K hK => pwp_block ?_
      repeat refine seq_k fun K hK => ?_
      refine region_k rfl fun K1 hK1 => ?_
      simp [e9, e11, hx', attrs_len, h, hk20, AttrT.row]
      intro j j2 hj
      refine hK1 _ (hK _ ?_)
      clear hK1 hK K K1
      refine seq_k fun Kz hKz => ?_
      have fin : ∀ (st' : PSt) (b : Bool), st'.env 36 = .val (.bool b) → b = hitA s x → st'.env 0 = .val (.string s) → st'.env 4 = .val (.string (lowS s)) → st'.env 9 = .slice 0 23 (attrs.map AttrT.row) → st'.env 10 = .val (.int .i64 20) →
          st'.env 11 = .val (.int .i64 k) → st'.env 2 = .ptr i 0 → st'.env 6 = .ptr j 0 → st'.H = st.H.put j (some (.cells (cellsD x.row))) → Kz st' := by
        intro st' b f36 fb f0 f4 f9 f10 f11 f2 f6 fH
        refine hKz _ ?_
        have hji : i ≠ j := by rintro rfl; rw [hj] at eH; cases eH
        have hij : j ≠ i := fun e => hji e.symm
        have hHj : H j = none := eO.none hj
        refine cond_k (by simp [f36]; rfl) (fun hb => ?_) (fun hb => ?_)
        · subst hb
          rw [← fb] at hf
          simp at hf
          repeat refine seq_k fun K hK => ?_
          refine region_k rfl fun K1 hK1 => ?_
          simp [f6, f2, fH, AttrT.row, Heap.put_ne _ _ hji, eH, eL]
          refine hK1 _ (hK _ ?_)
          clear hK1 hK K K1
          refine pwp_ret ?_
          simp [f2, findA, hf, AttrT.row]
          exact (eO.put hHj _).put hi _
        · subst hb
          rw [← fb] at hf
          refine pwp_skip (hK _ ?_)
          refine region_k rfl fun K1 hK1 => ?_
          simp [f11]
          refine hK1 _ ⟨20 - (k + 1), by omega, k + 1, by omega, rfl, ?_⟩
          have hw := wrapSucc k (by omega)
          simp [f0, f4, f9, f10, f2, hw, fH, Heap.put_ne _ _ hji, eH, eL]
          refine ⟨eO.put hHj _, ?_⟩
          simpa using hf
      clear hKz hK
      refine region_k rfl fun K1 hK1 => ?_
      simp [e4]
      refine PCalls.mono (Lower_spec x.n _ hxs.1) ?_
      rintro _ _ ⟨rfl, rfl⟩
      simp
      by_cases c1 : (lowS s).data = (lowS x.n).data
      · have c1 := eq_true c1
        simp [c1]
        exact hK1 _ (fin _ true (by simp) (by simp [hitA, c1]) (by simp [e0]) (by simp [e4]) (by simp [e9]) (by simp [e10]) (by simp [e11]) (by simp [e2]) (by simp) (by simp [AttrT.row]))
      · have c1 := eq_false c1
        by_cases c2 : (lowS s).data = #[]
        · have c2 := eq_true c2
          simp [c1, c2, e4, e0]
          exact hK1 _ (fin _ _ (by simp; rfl) (by simp [hitA, c1, c2]) (by simp [e0]) (by simp [e4]) (by simp [e9]) (by simp [e10]) (by simp [e11]) (by simp [e2]) (by simp) (by simp [AttrT.row]))
        · have c2 := eq_false c2
          simp [c1, c2, e4, e0]
          refine PCalls.mono (Lower_spec x.a _ hxs.2) ?_
          rintro _ _ ⟨rfl, rfl⟩
          simp
          by_cases c3 : (lowS s).data = (lowS x.a).data
          · have c3 := eq_true c3
            simp [c3]
            exact hK1 _ (fin _ true (by simp) (by simp [hitA, c1, c2, c3]) (by simp [e0]) (by simp [e4]) (by simp [e9]) (by simp [e10]) (by simp [e11]) (by simp [e2]) (by simp) (by simp [AttrT.row]))
          · have c3 := eq_false c3
            simp [c3, e0]
            exact hK1 _ (fin _ _ (by simp; rfl) (by simp [hitA, c1, c2, c3]) (by simp [e0]) (by simp [e4]) (by simp [e9]) (by simp [e10]) (by simp [e11]) (by simp [e2]) (by simp) (by simp [AttrT.row]))
    · have hk20 : k = 20 := by simp at h; omega
      subst hk20
      refine pwp_exit ?_
      simp
      clear hK K
      refine hK _ ?_
      clear hK K
      have hf : attrs.find? (hitA s) = none := by rw [eF]; rfl
      repeat refine seq_k fun K hK => ?_
      refine region_k rfl fun K1 hK1 => ?_
      simp [e2, eH, eL]
      refine hK1 _ (hK _ ?_)
      clear hK1 hK K K1
      refine pwp_ret ?_
      simp [e2, findA, hf, AttrT.row, noA]
      exact eO.put hi _

set_option maxRecDepth 100000 in
theorem RefFind_spec (s : ByteArray) (H : Heap) (hs : s.size ≤ 140737488351232) : PCalls Try.prog 9 [.val (.string s)] H fun d H' => d = .tup [(findA s).1.row, .val (.bool (findA s).2)] ∧ H' = H := by
  refine PCalls.of_pwp Try.call9 Try.func9 rfl (by simp [Try.ntmps9]) ?_
  rw [Try.ntmps9]
  repeat refine seq_k fun K hK => ?_
  refine region_k rfl fun K1 hK1 => ?_
  simp
  intro i i2 hi
  refine hK1 _ (hK _ ?_)
  clear hK1 hK K K1
  repeat refine seq_k fun K hK => ?_
  refine region_k rfl fun K1 hK1 => ?_
  simp
  refine PCalls.mono (RefAttributes_spec _) ?_
  rintro _ _ ⟨rfl, rfl⟩
  simp
  refine hK1 _ (hK _ ?_)
  clear hK1 hK K K1
  repeat refine seq_k fun K hK => ?_
  refine region_k rfl fun K1 hK1 => ?_
  simp
  refine PCalls.mono (RefLower_spec s _ hs) ?_
  rintro _ _ ⟨rfl, rfl⟩
  simp
  refine hK1 _ (hK _ ?_)
  clear hK1 hK K K1
  repeat refine seq_k fun K hK => ?_
  refine region_k rfl fun K1 hK1 => ?_
  simp
  refine hK1 _ (hK _ ?_)
  clear hK1 hK K K1
  refine pwp_block (pwp_loop (fun m st => ∃ k, k ≤ 20 ∧ m = 20 - k ∧ st.env 0 = .val (.string s) ∧ st.env 5 = .val (.string (lowS s)) ∧ st.env 4 = .slice 0 26 (attrs.map AttrT.row) ∧ st.env 6 = .val (.int .i64 k) ∧
    st.env 2 = .ptr i 0 ∧ (∃ cs, st.H i = some (.cells cs) ∧ cs.length = 5) ∧ Ext H st.H ∧ attrs.find? (hitA s) = (attrs.drop k).find? (hitA s)) 20 ?_ ?_)
  · refine ⟨0, by omega, by omega, by simp, by simp, by simp, by simp, by simp, ⟨_, by simp; rfl, by simp⟩, (Ext.refl H).put hi _, by simp⟩
  · rintro m st ⟨k, hk, rfl, e0, e5, e4, e6, e2, ⟨cs, eH, eL⟩, eO, eF⟩
    repeat refine seq_k fun K hK => ?_
    refine region_k rfl fun K1 hK1 => ?_
    simp [e4, e6, attrs_len]
    refine hK1 _ (hK _ ?_)
    clear hK1 hK K K1
    repeat refine seq_k fun K hK => ?_
    refine cond_b (by simp) (fun h => ?_) (fun h => ?_)
    · simp at h
      have hk20 : k < 20 := by omega
      refine pwp_skip ?_
      refine hK _ ?_
      clear hK K
      obtain ⟨x, hx⟩ : ∃ x, attrs[k]? = some x := ⟨attrs[k]'(by rw [attrs_len]; exact hk20), List.getElem?_eq_getElem _⟩
      have hxs := attrs_small x (List.mem_of_getElem? hx)
      have hf := find_drop hx eF
      have hx' : ∀ h, attrs[k]'h = x := fun h => (List.getElem?_eq_some_iff.1 hx).2
      refine seq_k fun K hK => pwp_block ?_
      refine seq_k fun Kz hKz => ?_
      have fin : ∀ (st' : PSt) (b : Bool), st'.env 46 = .val (.bool b) → b = hitA s x → st'.env 0 = .val (.string s) → st'.env 5 = .val (.string (lowS s)) → st'.env 4 = .slice 0 26 (attrs.map AttrT.row) →
          st'.env 6 = .val (.int .i64 k) → st'.env 2 = .ptr i 0 → st'.H = st.H → Kz st' := by
        intro st' b f46 fb f0 f5 f4 f6 f2 fH
        refine hKz _ ?_
        refine cond_k (by simp [f46]; rfl) (fun hb => ?_) (fun hb => ?_)
        · subst hb
          rw [← fb] at hf
          simp at hf
          repeat refine seq_k fun K hK => ?_
          refine region_k rfl fun K1 hK1 => ?_
          simp [f4, f6, f2, fH, hx', attrs_len, h, hk20, AttrT.row, eH, eL]
          refine hK1 _ (hK _ ?_)
          clear hK1 hK K K1
          refine pwp_ret ?_
          simp [f2, findA, hf, AttrT.row]
          exact eO.put hi _
        · subst hb
          rw [← fb] at hf
          refine pwp_skip (hK _ ?_)
          refine region_k rfl fun K1 hK1 => ?_
          simp [f6]
          refine hK1 _ ⟨20 - (k + 1), by omega, k + 1, by omega, rfl, ?_⟩
          have hw := wrapSucc k (by omega)
          simp [f0, f4, f5, f2, hw, fH, eH, eL]
          refine ⟨eO, ?_⟩
          simpa using hf
      clear hKz hK
      refine region_k rfl fun K1 hK1 => ?_
      simp [e4, e5, e6, hx', attrs_len, h, hk20, AttrT.row]
      refine PCalls.mono (RefLower_spec x.n _ hxs.1) ?_
      rintro _ _ ⟨rfl, rfl⟩
      simp
      by_cases c1 : (lowS s).data = (lowS x.n).data
      · have c1 := eq_true c1
        simp [c1]
        exact hK1 _ (fin _ true (by simp) (by simp [hitA, c1]) (by simp [e0]) (by simp [e5]) (by simp [e4]) (by simp [e6]) (by simp [e2]) rfl)
      · have c1 := eq_false c1
        simp [c1, e4, e5, e6, hx', attrs_len, h, hk20, AttrT.row]
        refine PCalls.mono (RefLower_spec x.a _ hxs.2) ?_
        rintro _ _ ⟨rfl, rfl⟩
        simp
        by_cases c3 : (lowS s).data = (lowS x.a).data
        · have c3 := eq_true c3
          by_cases c2 : (lowS s).data = #[]
          · have c2 := eq_true c2
            simp [c3, c2, e0, e4, e5, e6, hx', attrs_len, h, hk20, AttrT.row]
            exact hK1 _ (fin _ _ (by simp; rfl) (by simp [hitA, c1, c2, c3]) (by simp [e0]) (by simp [e5]) (by simp [e4]) (by simp [e6]) (by simp [e2]) rfl)
          · have c2 := eq_false c2
            simp [c3, c2, e5]
            exact hK1 _ (fin _ true (by simp) (by simp [hitA, c1, c2, c3]) (by simp [e0]) (by simp [e5]) (by simp [e4]) (by simp [e6]) (by simp [e2]) rfl)
        · have c3 := eq_false c3
          simp [c3, e0, e4, e5, e6, hx', attrs_len, h, hk20, AttrT.row]
          exact hK1 _ (fin _ _ (by simp; rfl) (by simp [hitA, c1, c3]) (by simp [e0]) (by simp [e5]) (by simp [e4]) (by simp [e6]) (by simp [e2]) rfl)
    · have hk20 : k = 20 := by simp at h; omega
      subst hk20
      refine pwp_exit ?_
      simp
      clear hK K
      refine hK _ ?_
      clear hK K
      have hf : attrs.find? (hitA s) = none := by rw [eF]; rfl
      repeat refine seq_k fun K hK => ?_
      refine region_k rfl fun K1 hK1 => ?_
      simp [e2, eH, eL]
      refine hK1 _ (hK _ ?_)
      clear hK1 hK K K1
      refine pwp_ret ?_
      simp [e2, findA, hf, AttrT.row, noA]
      exact eO.put hi _
end Go.Pw
