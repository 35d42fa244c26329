/- Functions of the program, walked. -/
import Derived.Test.YtmaajijhfpdefaaPwT6
namespace Go.Pw
open Go.Proofs
def upB (c : UInt8) : UInt8 := if 97 ≤ c ∧ c ≤ 122 then c - 32 else c
def upS (s : ByteArray) : ByteArray := ⟨(s.data.toList.map upB).toArray⟩
def mixF (f : UInt8 → UInt8) (l : List UInt8) (k : Nat) : List UInt8 := (l.take k).map f ++ l.drop k
theorem mixF_length (f : UInt8 → UInt8) (l : List UInt8) (k : Nat) : (mixF f l k).length = l.length := by simp [mixF]; omega
theorem mixF_get (f : UInt8 → UInt8) (l : List UInt8) (k : Nat) (h : k < l.length) : (mixF f l k)[k]? = some l[k] := by
  have : ((l.take k).map f).length = k := by simp; omega
  rw [mixF, List.getElem?_append_right (by omega), this]; simp [h]
theorem mixF_succ (f : UInt8 → UInt8) (l : List UInt8) (k : Nat) (h : k < l.length) : mixF f l (k + 1) = (mixF f l k).set k (f l[k]) := by
  have h1 : ((l.take k).map f).length = k := by simp; omega
  rw [mixF, mixF, List.set_append_right _ _ (by omega), h1, Nat.sub_self, List.drop_eq_getElem_cons h, List.set_cons_zero, List.take_succ_eq_append_getElem h, List.map_append, List.append_assoc]
  rfl
theorem mixF_zero (f : UInt8 → UInt8) (l : List UInt8) : mixF f l 0 = l := by simp [mixF]
theorem mixF_all (f : UInt8 → UInt8) (l : List UInt8) : mixF f l l.length = l.map f := by simp [mixF]
theorem upB_up (c : UInt8) (h1 : 97 ≤ (c.toNat : Int)) (h2 : (c.toNat : Int) ≤ 122) : D.val (.int .u8 (IntKind.u8.wrap ((c.toNat : Int) - 32))) = byD (upB c) := by
  have e1 : 97 ≤ c := UInt8.le_iff_toNat_le.2 (by simpa using (by omega : 97 ≤ c.toNat))
  have e2 : c ≤ 122 := UInt8.le_iff_toNat_le.2 (by simpa using (by omega : c.toNat ≤ 122))
  have e3 : (c - 32).toNat = c.toNat - 32 := by
    rw [UInt8.toNat_sub_of_le]
    · rfl
    · exact UInt8.le_iff_toNat_le.2 (by simpa using (by omega : 32 ≤ c.toNat))
  have e4 : IntKind.u8.wrap ((c.toNat : Int) - 32) = ((c.toNat - 32 : Nat) : Int) := by
    simp [IntKind.wrap, IntKind.bits, IntKind.signed]; omega
  rw [e4, upB, if_pos ⟨e1, e2⟩, byD, e3]
theorem upB_keep (c : UInt8) (h : ¬ (97 ≤ (c.toNat : Int) ∧ (c.toNat : Int) ≤ 122)) : upB c = c := by
  unfold upB
  rw [if_neg]
  rintro ⟨e1, e2⟩
  have := UInt8.le_iff_toNat_le.1 e1
  have := UInt8.le_iff_toNat_le.1 e2
  simp at *
  omega
def okA (s : ByteArray) (x : AttrT) : Prop := (findA s).2 = true ∧ (findA s).1.n = x.n ∧ (findA s).1.a = x.a ∧ (findA s).1.o = x.o ∧ (findA s).1.s = x.s ∧ (findA s).1.b = x.b
instance (s : ByteArray) (x : AttrT) : Decidable (okA s x) := by unfold okA; infer_instance
theorem attrs_found : ∀ x ∈ attrs, okA x.n x ∧ okA x.o x ∧ okA (upS x.n) x ∧ (x.a.data = #[] ∨ okA x.a x) := by decide +kernel
theorem classes_found : ∀ x ∈ classes, ((findC x.n).2 = true ∧ (findC x.n).1.n = x.n ∧ (findC x.n).1.s = x.s) ∧ (findC x.o).2 = true ∧ (findC x.o).1.n = x.n := by decide +kernel
theorem attrs_tiny : ∀ x ∈ attrs, x.n.size ≤ 1000 ∧ x.a.size ≤ 1000 ∧ x.o.size ≤ 1000 := by decide
theorem classes_tiny : ∀ x ∈ classes, x.n.size ≤ 1000 ∧ x.o.size ≤ 1000 := by decide
theorem turnOf (n : Int) (m : Nat) (hm : 0 < m) (hs : m ≤ 1000) : ∃ k : Nat, k < m ∧ (IntKind.i64.wrap (n.tmod m + m)).tmod m = k := by
  have h1 : n.tmod m < m := Int.tmod_lt_of_pos n (by omega)
  have h2 : -(m : Int) < n.tmod m := by
    have := Int.lt_tmod_of_pos n (b := (m : Int)) (by omega)
    omega
  rw [wrap64 _ (by omega) (by omega)]
  have h3 : 0 ≤ (n.tmod m + m).tmod m := Int.tmod_nonneg _ (by omega)
  have h4 : (n.tmod m + m).tmod m < m := Int.tmod_lt_of_pos _ (by omega)
  exact ⟨((n.tmod m + m).tmod m).toNat, by omega, by omega⟩
theorem neOf {H : Heap} {i j : Nat} {o : PObj} (h : H i = some o) (k : H j = none) : i ≠ j := by rintro rfl; rw [k] at h; cases h

structure NI (n : Int) (x : AttrT) (i5 i6 : Nat) (st : PSt) : Prop where
  e0 : st.env 0 = .val (.int .i64 n)
  e4 : st.env 4 = .slice 0 31 (classes.map ClassT.row)
  e5 : st.env 5 = .ptr i5 0
  e6 : st.env 6 = .arr i6 5 0 x.n.size
  h5 : st.H i5 = some (.cells (cellsD x.row))

set_option maxRecDepth 100000 in
theorem SchemaNames_walk (n : Int) (_ : (Lit.int .i64 n).wf = true) : PCalls Try.prog 4 [.val (.int .i64 n)] noHeap fun d _ => d = .val (.bool true) := by
  refine PCalls.of_pwp Try.call4 Try.func4 rfl (by simp [Try.ntmps4]) ?_
  rw [Try.ntmps4]
  obtain ⟨k, hk, hkn⟩ := turnOf n 20 (by omega) (by omega)
  obtain ⟨k2, hk2, hkn2⟩ := turnOf n 10 (by omega) (by omega)
  obtain ⟨x, hx⟩ : ∃ x, attrs[k]? = some x := ⟨attrs[k]'(by rw [attrs_len]; exact hk), List.getElem?_eq_getElem _⟩
  obtain ⟨y, hy⟩ : ∃ y, classes[k2]? = some y := ⟨classes[k2]'(by rw [classes_len]; exact hk2), List.getElem?_eq_getElem _⟩
  have hx' : ∀ h, attrs[k]'h = x := fun h => (List.getElem?_eq_some_iff.1 hx).2
  have hy' : ∀ h, classes[k2]'h = y := fun h => (List.getElem?_eq_some_iff.1 hy).2
  obtain ⟨f1, f2, f3, f4⟩ := attrs_found x (List.mem_of_getElem? hx)
  obtain ⟨g1, g2⟩ := classes_found y (List.mem_of_getElem? hy)
  have tx := attrs_tiny x (List.mem_of_getElem? hx)
  have ty := classes_tiny y (List.mem_of_getElem? hy)
  repeat refine seq_k fun K hK => ?_
  refine region_k rfl fun K1 hK1 => ?_
  simp
  refine hK1 _ (hK _ ?_)
  clear hK1 hK K K1
  repeat refine seq_k fun K hK => ?_
  refine region_k rfl fun K1 hK1 => ?_
  simp
  refine PCalls.mono (Attributes_spec _) ?_
  rintro _ _ ⟨rfl, rfl⟩
  simp
  refine hK1 _ (hK _ ?_)
  clear hK1 hK K K1
  repeat refine seq_k fun K hK => ?_
  refine region_k rfl fun K1 hK1 => ?_
  simp
  refine PCalls.mono (Classes_spec _) ?_
  rintro _ _ ⟨rfl, rfl⟩
  simp
  refine hK1 _ (hK _ ?_)
  clear hK1 hK K K1
  repeat refine seq_k fun K hK => ?_
  refine region_k rfl fun K1 hK1 => ?_
  simp [attrs_len, classes_len]
  refine hK1 _ (hK _ ?_)
  clear hK1 hK K K1
  refine cond_b (by simp) (fun h => by simp at h) (fun _ => ?_)
  refine pwp_skip ?_
  refine hK _ ?_
  clear hK K
  simp at hkn hkn2
  have hki : (k : Int) < 20 := by omega
  have hki2 : (k2 : Int) < 10 := by omega
  repeat refine seq_k fun K hK => ?_
  refine region_k rfl fun K1 hK1 => ?_
  simp [attrs_len, hkn, hx', hk, hki, AttrT.row]
  intro i5 j5 n5
  refine hK1 _ (hK _ ?_)
  clear hK1 hK K K1
  repeat refine seq_k fun K hK => ?_
  refine region_k rfl fun K1 hK1 => ?_
  simp
  refine ⟨by simp [maxLen]; omega, .inr fun i6 j6 n6 => ?_⟩
  have q65 := (put_none n6).1
  refine hK1 _ (hK _ ?_)
  clear hK1 hK K K1
  repeat refine seq_k fun K hK => ?_
  refine region_k rfl fun K1 hK1 => ?_
  simp
  refine hK1 _ (hK _ ?_)
  clear hK1 hK K K1
  refine pwp_block (pwp_loop (fun m st => ∃ j, j ≤ x.n.size ∧ m = x.n.size - j ∧ NI n x i5 i6 st ∧ st.env 7 = .val (.int .i64 j) ∧ st.H i6 = some (.cells ((mixF upB x.n.data.toList j).map byD))) x.n.size ?_ ?_)
  · refine ⟨0, by omega, by omega, ?_, by simp, by simp [mixF_zero]⟩
    constructor <;> simp [putNe q65.symm, AttrT.row]
  · rintro m st ⟨j, hj, rfl, L, e7, h6⟩
    repeat refine seq_k fun K hK => ?_
    refine region_k rfl fun K1 hK1 => ?_
    simp [L.e6, e7]
    refine hK1 _ (hK _ ?_)
    clear hK1 hK K K1
    repeat refine seq_k fun K hK => ?_
    refine cond_b (by simp) (fun h => ?_) (fun h => ?_)
    · simp at h
      refine pwp_skip ?_
      refine hK _ ?_
      clear hK K
      have hj' : j < x.n.data.toList.length := by simpa using h
      obtain ⟨c, hc⟩ : ∃ c, x.n.data.toList[j] = c := ⟨_, rfl⟩
      have hg : ∀ h, (mixF upB x.n.data.toList j)[j]'h = c := fun h => by
        have := mixF_get upB x.n.data.toList j hj'
        rw [List.getElem?_eq_getElem h] at this
        rw [← hc]
        exact Option.some.inj this
      refine seq_k fun Kb hKb => pwp_block ?_
      have fin : ∀ st' : PSt, NI n x i5 i6 st' → st'.env 7 = .val (.int .i64 j) → st'.H i6 = some (.cells ((mixF upB x.n.data.toList (j + 1)).map byD)) → Kb st' := by
        intro st' L f7 fh
        refine hKb _ ?_
        refine region_k rfl fun K1 hK1 => ?_
        simp [f7]
        refine hK1 _ ⟨x.n.size - (j + 1), by omega, j + 1, by omega, rfl, ?_⟩
        have hw := wrapSucc j (by omega)
        refine ⟨?_, by simp [hw], by simpa using fh⟩
        constructor <;> simp [L.e0, L.e4, L.e5, L.e6, L.h5]
      repeat refine seq_k fun K hK => ?_
      refine region_k rfl fun K1 hK1 => ?_
      simp [L.e6, e7, h6, hg, h, mixF_length, byD]
      by_cases h1 : 97 ≤ (c.toNat : Int)
      · simp [h1, L.e6, e7, h6, hg, h, mixF_length, byD]
        by_cases h2 : (c.toNat : Int) ≤ 122
        · simp [h2]
          refine hK1 _ (hK _ ?_)
          clear hK1 hK K K1
          refine cond_b (by simp) (fun _ => ?_) (fun h => by simp at h)
          refine region_k rfl fun K1 hK1 => ?_
          simp [L.e6, e7, h6, hg, h, mixF_length, byD, Nat.succ_le_iff]
          refine hK1 _ ?_
          clear hK1 K1
          refine fin _ ?_ (by simp [e7]) ?_
          · constructor <;> simp [L.e0, L.e4, L.e5, L.e6, L.h5, putNe q65.symm]
          · have hb : (fun b : UInt8 => D.val (.int .u8 (b.toNat : Int))) = byD := rfl
            have hu := upB_up c h1 h2
            simp [mixF_succ upB _ _ hj', hc, hb, hu]
        · simp [h2]
          refine hK1 _ (hK _ ?_)
          clear hK1 hK K K1
          refine cond_b (by simp) (fun h => by simp at h) (fun _ => ?_)
          refine pwp_skip (fin _ ?_ (by simp [e7]) ?_)
          · constructor <;> simp [L.e0, L.e4, L.e5, L.e6, L.h5]
          · have hg' : (mixF upB x.n.data.toList j)[j]? = some c := by rw [← hc]; exact mixF_get upB _ _ hj'
            simp [h6, mixF_succ upB _ _ hj', hc, upB_keep c (fun h => h2 h.2), set_same _ _ _ hg']
      · simp [h1]
        refine hK1 _ (hK _ ?_)
        clear hK1 hK K K1
        refine cond_b (by simp) (fun h => by simp at h) (fun _ => ?_)
        refine pwp_skip (fin _ ?_ (by simp [e7]) ?_)
        · constructor <;> simp [L.e0, L.e4, L.e5, L.e6, L.h5]
        · have hg' : (mixF upB x.n.data.toList j)[j]? = some c := by rw [← hc]; exact mixF_get upB _ _ hj'
          simp [h6, mixF_succ upB _ _ hj', hc, upB_keep c (fun h => h1 h.1), set_same _ _ _ hg']
    · have hjs : j = x.n.size := by simp at h; omega
      subst hjs
      refine pwp_exit ?_
      simp
      clear hK K
      refine hK _ ?_
      clear hK K
      have hall : (mixF upB x.n.data.toList x.n.size).map byD = (x.n.data.toList.map upB).map byD := by rw [← mixF_all]; simp
      obtain ⟨l, hl⟩ : ∃ l, x.n.data.toList.map upB = l := ⟨_, rfl⟩
      have hll : l.length = x.n.size := by rw [← hl]; simp
      have htk : l.take x.n.size = l := List.take_of_length_le (by omega)
      have hus : upS x.n = ⟨l.toArray⟩ := by rw [← hl]; rfl
      rw [hus] at f3
      rw [hall, hl] at h6
      have d0 := L.h5
      have q56 : i5 ≠ i6 := q65.symm
      repeat refine seq_k fun K hK => ?_
      refine region_k rfl fun K1 hK1 => ?_
      simp [L.e5, L.h5, AttrT.row]
      refine PCalls.mono (Find_spec x.n _ (by omega)) ?_
      rintro _ _ ⟨rfl, rfl⟩
      simp [AttrT.row]
      intro i8 j8 n8
      have q58 : i5 ≠ i8 := neOf L.h5 n8
      have q68 : i6 ≠ i8 := neOf h6 n8
      refine hK1 _ (hK _ ?_)
      clear hK1 hK K K1
      repeat refine seq_k fun K hK => ?_
      refine region_k rfl fun K1 hK1 => ?_
      simp [L.e5, putNe q58, L.h5, AttrT.row]
      refine PCalls.mono (Find_spec x.o _ (by omega)) ?_
      rintro _ _ ⟨rfl, rfl⟩
      simp [AttrT.row]
      intro i10 j10 n10
      obtain ⟨q108, n10⟩ := put_none n10
      have q510 : i5 ≠ i10 := neOf L.h5 n10
      have q610 : i6 ≠ i10 := neOf h6 n10
      refine hK1 _ (hK _ ?_)
      clear hK1 hK K K1
      repeat refine seq_k fun K hK => ?_
      refine region_k rfl fun K1 hK1 => ?_
      simp [L.e6, putNe q68, putNe q610, h6, hll]
      rw [← List.map_take, htk]
      simp
      refine PCalls.mono (Find_spec ⟨l.toArray⟩ _ (by show l.toArray.size ≤ _; simp; omega)) ?_
      rintro _ _ ⟨rfl, rfl⟩
      simp [AttrT.row]
      intro i12 j12 n12
      obtain ⟨q1210, n12⟩ := put_none n12
      obtain ⟨q128, n12⟩ := put_none n12
      have q512 : i5 ≠ i12 := neOf L.h5 n12
      refine hK1 _ (hK _ ?_)
      clear hK1 hK K K1
      obtain ⟨a1, a2, a3, a4, a5, a6⟩ := f1
      obtain ⟨b1, b2, b3, b4, b5, b6⟩ := f2
      obtain ⟨c1, c2, c3, c4, c5, c6⟩ := f3
      repeat refine seq_k fun K hK => ?_
      refine region_k rfl fun K1 hK1 => ?_
      simp [a1, a2, a3, a4, a5, a6, b1, b2, b3, b4, b5, b6, c1, c2, c3, c4, c5, c6, L.e5, putNe q58, putNe q510, putNe q512, putNe q108.symm, putNe q128.symm, putNe q1210.symm, L.h5, AttrT.row]
      refine hK1 _ (hK _ ?_)
      clear hK1 hK K K1
      refine cond_b (by simp) (fun h => by simp at h) (fun _ => ?_)
      refine pwp_skip ?_
      refine hK _ ?_
      clear hK K
      repeat refine seq_k fun K hK => ?_
      refine region_k rfl fun K1 hK1 => ?_
      simp [L.e5, putNe q58, putNe q510, putNe q512, L.h5, AttrT.row]
      refine hK1 _ (hK _ ?_)
      clear hK1 hK K K1
      repeat refine seq_k fun K hK => ?_
      have rest : ∀ st' : PSt, st'.env 0 = .val (.int .i64 n) → st'.env 4 = .slice 0 31 (classes.map ClassT.row) → K st' := by
        intro st' e0 e4
        refine hK _ ?_
        clear hK K
        repeat refine seq_k fun K hK => ?_
        refine region_k rfl fun K1 hK1 => ?_
        simp [e0, e4, classes_len, hkn2, hy', hk2, hki2, ClassT.row]
        intro i16 j16 n16
        refine hK1 _ (hK _ ?_)
        clear hK1 hK K K1
        repeat refine seq_k fun K hK => ?_
        refine region_k rfl fun K1 hK1 => ?_
        simp
        refine PCalls.mono (FindClass_spec y.n _ (by omega)) ?_
        rintro _ _ ⟨rfl, rfl⟩
        simp [ClassT.row]
        intro i17 j17 n17
        have q17 := (put_none n17).1
        refine hK1 _ (hK _ ?_)
        clear hK1 hK K K1
        repeat refine seq_k fun K hK => ?_
        refine region_k rfl fun K1 hK1 => ?_
        simp [putNe q17.symm]
        refine PCalls.mono (FindClass_spec y.o _ (by omega)) ?_
        rintro _ _ ⟨rfl, rfl⟩
        simp [ClassT.row]
        intro i18 j18 n18
        have q18 := (put_none n18).1
        have q1816 := (put_none (put_none n18).2).1
        refine hK1 _ (hK _ ?_)
        clear hK1 hK K K1
        obtain ⟨a1, a2, a3⟩ := g1
        obtain ⟨b1, b2⟩ := g2
        repeat refine seq_k fun K hK => ?_
        refine region_k rfl fun K1 hK1 => ?_
        simp [putNe q17.symm, putNe q18.symm, putNe q1816.symm, a1, a2, a3, b1, b2]
        by_cases hs : y.s.data = #[]
        · simp [hs]
          refine hK1 _ (hK _ ?_)
          clear hK1 hK K K1
          refine pwp_ret ?_
          simp only [thenP_ret, inBlockP_ret, retPost, resultsD, results1, tupD]
          exact ⟨_, fun _ _ h => h, rfl⟩
        · simp [hs, putNe q17.symm, putNe q18.symm, putNe q1816.symm, a1, a2, a3, b1, b2]
          refine hK1 _ (hK _ ?_)
          clear hK1 hK K K1
          refine pwp_ret ?_
          simp only [thenP_ret, inBlockP_ret, retPost, resultsD, results1, tupD]
          exact ⟨_, fun _ _ h => h, rfl⟩
      refine cond_b (by simp) (fun h => ?_) (fun h => ?_)
      · simp at h
        obtain ⟨d1, d2, d3, d4, d5, d6⟩ := f4.resolve_left h
        clear hK
        repeat refine seq_k fun K hK => ?_
        refine region_k rfl fun K1 hK1 => ?_
        simp [L.e5, putNe q58, putNe q510, putNe q512, L.h5, AttrT.row]
        refine PCalls.mono (Find_spec x.a _ (by omega)) ?_
        rintro _ _ ⟨rfl, rfl⟩
        simp [AttrT.row]
        intro i14 j14 n14
        obtain ⟨q1412, n14⟩ := put_none n14
        obtain ⟨q1410, n14⟩ := put_none n14
        obtain ⟨q148, n14⟩ := put_none n14
        have q514 : i5 ≠ i14 := neOf L.h5 n14
        refine hK1 _ (hK _ ?_)
        clear hK1 hK K K1
        repeat refine seq_k fun K hK => ?_
        refine region_k rfl fun K1 hK1 => ?_
        simp [d1, d2, d3, d4, d5, d6, L.e5, putNe q58, putNe q510, putNe q512, putNe q514, L.h5, AttrT.row]
        refine hK1 _ (hK _ ?_)
        clear hK1 hK K K1
        refine cond_b (by simp) (fun h => by simp at h) (fun _ => ?_)
        exact pwp_skip (rest _ (by simp [L.e0]) (by simp [L.e4]))
      · exact pwp_skip (rest _ (by simp [L.e0]) (by simp [L.e4]))
end Go.Pw
