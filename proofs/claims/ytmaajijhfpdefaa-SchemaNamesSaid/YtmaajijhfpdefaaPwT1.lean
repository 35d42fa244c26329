/- Functions of the program, walked. -/
import Derived.Test.YtmaajijhfpdefaaPwFill
import Derived.Test.YtmaajijhfpdefaaProg
import Derived.KernelRfl
namespace Go.Pw
open Go.Proofs
attribute [simp] Try.underlying3 Try.underlying4 Try.underlying5 Try.underlying9 Try.underlying23 Try.underlying37 Try.underlying62 Try.underlying47
@[simp] theorem sz5 : szOf Try.prog 5 = 1 := by kernel_rfl

def lowB (c : UInt8) : UInt8 := if 65 ≤ c ∧ c ≤ 90 then c + 32 else c
def lowS (s : ByteArray) : ByteArray := ⟨(s.data.toList.map lowB).toArray⟩
def mixed (l : List UInt8) (k : Nat) : List UInt8 := (l.take k).map lowB ++ l.drop k
theorem mixed_length (l : List UInt8) (k : Nat) : (mixed l k).length = l.length := by simp [mixed]; omega
theorem mixed_get (l : List UInt8) (k : Nat) (h : k < l.length) : (mixed l k)[k]? = some l[k] := by
  have : ((l.take k).map lowB).length = k := by simp; omega
  rw [mixed, List.getElem?_append_right (by omega), this]; simp [h]
theorem mixed_succ (l : List UInt8) (k : Nat) (h : k < l.length) : mixed l (k + 1) = (mixed l k).set k (lowB l[k]) := by
  have h1 : ((l.take k).map lowB).length = k := by simp; omega
  rw [mixed, mixed, List.set_append_right _ _ (by omega), h1, Nat.sub_self, List.drop_eq_getElem_cons h, List.set_cons_zero, List.take_succ_eq_append_getElem h, List.map_append, List.append_assoc]
  rfl
theorem mixed_zero (l : List UInt8) : mixed l 0 = l := by simp [mixed]
theorem mixed_all (l : List UInt8) : mixed l l.length = l.map lowB := by simp [mixed]
theorem set_same {α : Type} (l : List α) (k : Nat) (x : α) (h : l[k]? = some x) : l.set k x = l := by
  apply List.ext_getElem?
  intro i
  rw [List.getElem?_set]
  split
  · rename_i e; subst e
    split
    · exact h.symm
    · rename_i h2; exact absurd (List.getElem?_eq_some_iff.1 h).1 h2
  · rfl
theorem lowB_up (c : UInt8) (h1 : 65 ≤ (c.toNat : Int)) (h2 : (c.toNat : Int) ≤ 90) : D.val (.int .u8 (IntKind.u8.wrap ((c.toNat : Int) + 32))) = byD (lowB c) := by
  have e1 : 65 ≤ c := UInt8.le_iff_toNat_le.2 (by simpa using (by omega : 65 ≤ c.toNat))
  have e2 : c ≤ 90 := UInt8.le_iff_toNat_le.2 (by simpa using (by omega : c.toNat ≤ 90))
  have e3 : (c + 32).toNat = c.toNat + 32 := by simp [UInt8.toNat_add]; omega
  have e4 : IntKind.u8.wrap ((c.toNat : Int) + 32) = ((c.toNat + 32 : Nat) : Int) := by
    simp [IntKind.wrap, IntKind.bits, IntKind.signed]; omega
  rw [e4, lowB, if_pos ⟨e1, e2⟩, byD, e3]
theorem lowB_keep (c : UInt8) (h : ¬ (65 ≤ (c.toNat : Int) ∧ (c.toNat : Int) ≤ 90)) : lowB c = c := by
  unfold lowB
  rw [if_neg]
  rintro ⟨e1, e2⟩
  have := UInt8.le_iff_toNat_le.1 e1
  have := UInt8.le_iff_toNat_le.1 e2
  simp at *
  omega

set_option maxRecDepth 100000 in
theorem Lower_spec (s : ByteArray) (H : Heap) (hs : s.size ≤ 140737488351232) : PCalls Try.prog 24 [.val (.string s)] H fun d H' => d = .val (.string (lowS s)) ∧ H' = H := by
  refine PCalls.of_pwp Try.call24 Try.func24 rfl (by simp [Try.ntmps24]) ?_
  rw [Try.ntmps24]
  repeat refine seq_k fun K hK => ?_
  refine region_k rfl fun K1 hK1 => ?_
  simp
  refine hK1 _ (hK _ ?_)
  clear hK1 hK K K1
  repeat refine seq_k fun K hK => ?_
  refine region_k rfl fun K1 hK1 => ?_
  simp
  refine ⟨by simp [maxLen]; omega, .inr fun i i2 hi => ?_⟩
  refine hK1 _ (hK _ ?_)
  clear hK1 hK K K1
  repeat refine seq_k fun K hK => ?_
  refine region_k rfl fun K1 hK1 => ?_
  simp
  refine hK1 _ (hK _ ?_)
  clear hK1 hK K K1
  refine pwp_block (pwp_loop (fun m st => ∃ k, k ≤ s.size ∧ m = s.size - k ∧ st.env 3 = .arr i 5 0 s.size ∧ st.env 8 = .arr i 5 0 s.size ∧ st.env 9 = .val (.int .i64 s.size) ∧ st.env 10 = .val (.int .i64 k) ∧
    st.H i = some (.cells ((mixed s.data.toList k).map byD)) ∧ ∀ j, j ≠ i → st.H j = H j) s.size ?_ ?_)
  · refine ⟨0, by omega, by omega, by simp, by simp, by simp, by simp, ?_, fun j hj => ?_⟩
    · simp [mixed_zero]
    · simp [Heap.put_ne _ _ hj]
  · rintro m st ⟨k, hk, rfl, e3, e8, e9, e10, eH, eO⟩
    repeat refine seq_k fun K hK => ?_
    refine region_k rfl fun K1 hK1 => ?_
    simp [e9, e10]
    refine hK1 _ (hK _ ?_)
    clear hK1 hK K K1
    repeat refine seq_k fun K hK => ?_
    refine cond_b (by simp) (fun h => ?_) (fun h => ?_)
    · simp at h
      refine pwp_skip ?_
      refine hK _ ?_
      clear hK K
      have hk' : k < s.data.toList.length := by simpa using h
      have hg : ∀ h, (mixed s.data.toList k)[k]'h = s.data.toList[k] := fun h => by have := mixed_get s.data.toList k hk'; rw [List.getElem?_eq_getElem h] at this; exact Option.some.inj this
      obtain ⟨c, hc⟩ : ∃ c, s.data.toList[k] = c := ⟨_, rfl⟩
      rw [hc] at hg
      refine seq_k fun Kb hKb => pwp_block ?_
      have fin : ∀ st' : PSt, st'.env 3 = .arr i 5 0 s.size → st'.env 8 = .arr i 5 0 s.size → st'.env 9 = .val (.int .i64 s.size) → st'.env 10 = .val (.int .i64 k) →
          st'.H i = some (.cells ((mixed s.data.toList (k + 1)).map byD)) → (∀ j, j ≠ i → st'.H j = H j) → Kb st' := by
        intro st' f3 f8 f9 f10 fH fO
        refine hKb _ (region_k rfl fun K1 hK1 => ?_)
        simp [f10]
        refine hK1 _ ⟨s.size - (k + 1), by omega, k + 1, by omega, rfl, ?_⟩
        have := wrapSucc k (by omega)
        simp [f3, f8, f9, fH, this]
        exact fO
      repeat refine seq_k fun K hK => ?_
      refine region_k rfl fun K1 hK1 => ?_
      simp [e8, e10, eH, hg, h, mixed_length, byD]
      refine hK1 _ (hK _ ?_)
      clear hK1 hK K K1
      repeat refine seq_k fun K hK => ?_
      refine region_k rfl fun K1 hK1 => ?_
      simp
      by_cases h1 : 65 ≤ (c.toNat : Int)
      · by_cases h2 : (c.toNat : Int) ≤ 90
        · simp [h1, h2]
          refine hK1 _ (hK _ ?_)
          clear hK1 hK K K1
          refine cond_b (by simp) (fun _ => ?_) (fun h => by simp at h)
          refine region_k rfl fun K1 hK1 => ?_
          simp [e3, eH, h, mixed_length, Nat.succ_le_iff]
          refine hK1 _ ?_
          clear hK1 K1
          refine fin _ (by simp [e3]) (by simp [e8]) (by simp [e9]) (by simp [e10]) ?_ (fun j hj => by simp [Heap.put_ne _ _ hj, eO j hj])
          simp [lowB_up c h1 h2, mixed_succ _ _ hk', hc]
        · simp [h1, h2]
          refine hK1 _ (hK _ ?_)
          clear hK1 hK K K1
          refine cond_b (by simp) (fun h => by simp at h) (fun _ => ?_)
          refine pwp_skip ?_
          refine fin _ (by simp [e3]) (by simp [e8]) (by simp [e9]) (by simp [e10]) ?_ (fun j hj => by simp [eO j hj])
          have hg' : (mixed s.data.toList k)[k]? = some c := by rw [← hc]; exact mixed_get _ _ hk'
          simp [eH, mixed_succ _ _ hk', hc, lowB_keep c (fun h => h2 h.2), set_same _ _ _ hg']
      · simp [h1]
        refine hK1 _ (hK _ ?_)
        clear hK1 hK K K1
        refine cond_b (by simp) (fun h => by simp at h) (fun _ => ?_)
        refine pwp_skip ?_
        refine fin _ (by simp [e3]) (by simp [e8]) (by simp [e9]) (by simp [e10]) ?_ (fun j hj => by simp [eO j hj])
        have hg' : (mixed s.data.toList k)[k]? = some c := by rw [← hc]; exact mixed_get _ _ hk'
        simp [eH, mixed_succ _ _ hk', hc, lowB_keep c (fun h => h1 h.1), set_same _ _ _ hg']
    · simp at h
      have hks : k = s.size := by omega
      subst hks
      refine pwp_exit ?_
      simp
      clear hK K
      refine hK _ ?_
      clear hK K
      have hall : (mixed s.data.toList s.size).map byD = (s.data.toList.map lowB).map byD := by rw [← mixed_all]; simp
      obtain ⟨l, hl⟩ : ∃ l, s.data.toList.map lowB = l := ⟨_, rfl⟩
      have hll : l.length = s.size := by rw [← hl]; simp
      have htk : l.take s.size = l := List.take_of_length_le (by omega)
      rw [hall, hl] at eH
      repeat refine seq_k fun K hK => ?_
      refine region_k rfl fun K1 hK1 => ?_
      simp [e3, eH, hll]
      rw [← List.map_take, htk]
      simp
      refine hK1 _ (hK _ ?_)
      clear hK1 hK K K1
      refine pwp_ret ?_
      simp
      refine ⟨fun j o hj => ?_, by rw [← hl]; rfl⟩
      rw [eO j]
      · exact hj
      · rintro rfl
        rw [hi] at hj
        cases hj

@[simp] theorem zd5 : zeroD Try.prog 5 = some [.val (.int .u8 0)] := by kernel_rfl
@[simp] theorem inf5 : Try.prog.info? 5 = some Try.t5 := rfl
@[simp] theorem inf5s : Try.t5.size = 1 := rfl
@[simp] theorem inf5b : Try.t5.bytes = 1 := rfl
@[simp] theorem inf5z : ∃ z, Try.t5.zero = some z ∧ z.cells.size = 1 := ⟨_, rfl, rfl⟩
theorem take_succ_map {α β : Type} (f : α → β) (l : List α) (k : Nat) (h : k < l.length) : (l.take k).map f ++ [f l[k]] = (l.take (k + 1)).map f := by
  rw [List.take_succ_eq_append_getElem h, List.map_append]; rfl
set_option maxRecDepth 100000 in
theorem RefLower_spec (s : ByteArray) (H : Heap) (hs : s.size ≤ 140737488351232) : PCalls Try.prog 25 [.val (.string s)] H fun d H' => d = .val (.string (lowS s)) ∧ H' = H := by
  refine PCalls.of_pwp Try.call25 Try.func25 rfl (by simp [Try.ntmps25]) ?_
  rw [Try.ntmps25]
  repeat refine seq_k fun K hK => ?_
  refine region_k rfl fun K1 hK1 => ?_
  simp
  refine hK1 _ (hK _ ?_)
  clear hK1 hK K K1
  repeat refine seq_k fun K hK => ?_
  refine region_k rfl fun K1 hK1 => ?_
  simp
  refine hK1 _ (hK _ ?_)
  clear hK1 hK K K1
  repeat refine seq_k fun K hK => ?_
  refine region_k rfl fun K1 hK1 => ?_
  simp
  refine hK1 _ (hK _ ?_)
  clear hK1 hK K K1
  refine pwp_block (pwp_loop (fun m st => ∃ k, k ≤ s.size ∧ m = s.size - k ∧ st.env 0 = .val (.string s) ∧ st.env 4 = .val (.int .i64 k) ∧
    (∃ g e, st.env 3 = .slice g e ((s.data.toList.take k).map fun b => byD (lowB b)) ∧ ((k = 0 ∧ g = 1) ∨ (2 ≤ g ∧ e = 5 ∧ st.H g = some .spare ∧ H g = none))) ∧ Ext H st.H) s.size ?_ ?_)
  · refine ⟨0, by omega, by omega, by simp, by simp, ⟨1, 0, by simp, by simp⟩, Ext.refl H⟩
  · rintro m st ⟨k, hk, rfl, e0, e4, ⟨g, e, e3, eg⟩, eO⟩
    repeat refine seq_k fun K hK => ?_
    refine region_k rfl fun K1 hK1 => ?_
    simp [e0, e4]
    refine hK1 _ (hK _ ?_)
    clear hK1 hK K K1
    repeat refine seq_k fun K hK => ?_
    refine cond_b (by simp) (fun h => ?_) (fun h => ?_)
    · simp at h
      refine pwp_skip ?_
      refine hK _ ?_
      clear hK K
      have hk' : k < s.data.toList.length := by simpa using h
      obtain ⟨c, hc⟩ : ∃ c, s.data.toList[k] = c := ⟨_, rfl⟩
      have hml : (s.data.toList.take k).length = k := by simp; omega
      refine seq_k fun K hK => pwp_block ?_
      repeat refine seq_k fun K hK => ?_
      refine region_k rfl fun K1 hK1 => ?_
      simp [e0, e4, h, byteAt, hc]
      refine hK1 _ (hK _ ?_)
      clear hK1 hK K K1
      refine seq_k fun Kz hKz => ?_
      have fin : ∀ st' : PSt, st'.env 0 = .val (.string s) → st'.env 4 = .val (.int .i64 k) → st'.env 5 = byD (lowB c) → st'.env 3 = st.env 3 → st'.H = st.H → Kz st' := by
        intro st' f0 f4 f5 f3 fH
        refine hKz _ ?_
        have more : ∀ st'' : PSt, st''.env 0 = .val (.string s) → st''.env 4 = .val (.int .i64 k) →
            (∃ g e, st''.env 3 = .slice g e ((s.data.toList.take (k + 1)).map fun b => byD (lowB b)) ∧ ((k + 1 = 0 ∧ g = 1) ∨ (2 ≤ g ∧ e = 5 ∧ st''.H g = some .spare ∧ H g = none))) →
            Ext H st''.H → K st'' := by
          intro st'' g0 g4 g3 gO
          refine hK _ ?_
          refine region_k rfl fun K1 hK1 => ?_
          simp [g4]
          refine hK1 _ ⟨s.size - (k + 1), by omega, k + 1, by omega, rfl, ?_⟩
          have hw := wrapSucc k (by omega)
          simp [g0, hw]
          exact ⟨by simpa using g3, gO⟩
        have hf := take_succ_map (fun b => byD (lowB b)) s.data.toList k hk'
        rw [hc] at hf
        rcases eg with ⟨rfl, rfl⟩ | ⟨g2, rfl, gH, gN⟩
        · simp at e3 hf
          refine region_k rfl fun K1 hK1 => ?_
          simp [f3, f5, e3, fH]
          refine bs_slice Try.underlying47 (by simp) rfl fun a a2 ha => ?_
          simp
          intro b b2 hb
          refine hK1 _ ?_
          obtain ⟨hba, hb⟩ := put_none hb
          exact more _ (by simp [f0]) (by simp [f4]) ⟨b, 5, by simp [← hf], .inr ⟨b2, rfl, by simp, eO.none hb⟩⟩ ((eO.put (eO.none ha) _).put (eO.none hb) _)
        · obtain ⟨m, hm⟩ : ∃ m, (s.data.toList.take k).map (fun b => byD (lowB b)) = m := ⟨_, rfl⟩
          have hmn : m.length = k := by rw [← hm, List.length_map, hml]
          rw [hm] at e3 hf
          refine region_k rfl fun K1 hK1 => ?_
          simp [f3, f5, e3, fH, hmn]
          have hk2 : k ≤ 140737488355327 := by omega
          refine bs_slice Try.underlying47 (by simp) rfl fun a a2 ha => ?_
          simp [hmn]
          refine ⟨hk2, .inr ⟨g2, ?_, fun b b2 hb => hK1 _ ?_⟩⟩
          · exact put_at (by rintro rfl; rw [ha] at gH; cases gH) gH
          obtain ⟨hba, hb⟩ := put_none hb
          exact more _ (by simp [f0]) (by simp [f4]) ⟨b, 5, by simp [← hf], .inr ⟨b2, rfl, by simp, eO.none hb⟩⟩ (((eO.put (eO.none ha) _).put gN _).put (eO.none hb) _)
      clear hKz
      repeat refine seq_k fun K hK => ?_
      refine region_k rfl fun K1 hK1 => ?_
      simp
      by_cases h1 : 65 ≤ (c.toNat : Int)
      · by_cases h2 : (c.toNat : Int) ≤ 90
        · simp [h1, h2]
          refine hK1 _ (hK _ ?_)
          clear hK1 hK K K1
          refine cond_b (by simp) (fun _ => ?_) (fun h => by simp at h)
          refine region_k rfl fun K1 hK1 => ?_
          simp
          refine hK1 _ ?_
          clear hK1 K1
          refine fin _ (by simp [e0]) (by simp [e4]) ?_ (by simp) rfl
          simp [lowB_up c h1 h2]
        · simp [h1, h2]
          refine hK1 _ (hK _ ?_)
          clear hK1 hK K K1
          refine cond_b (by simp) (fun h => by simp at h) (fun _ => ?_)
          refine pwp_skip (fin _ (by simp [e0]) (by simp [e4]) ?_ (by simp) rfl)
          simp [lowB_keep c (fun h => h2 h.2), byD]
      · simp [h1]
        refine hK1 _ (hK _ ?_)
        clear hK1 hK K K1
        refine cond_b (by simp) (fun h => by simp at h) (fun _ => ?_)
        refine pwp_skip (fin _ (by simp [e0]) (by simp [e4]) ?_ (by simp) rfl)
        simp [lowB_keep c (fun h => h1 h.1), byD]
    · have hks : k = s.size := by simp at h; omega
      subst hks
      refine pwp_exit ?_
      simp
      clear hK K
      refine hK _ ?_
      clear hK K
      have hl : s.data.toList.take s.size = s.data.toList := List.take_of_length_le (by simp)
      rw [hl] at e3
      obtain ⟨l, hl⟩ : ∃ l, s.data.toList.map lowB = l := ⟨_, rfl⟩
      have hle : (s.data.toList.map fun b => byD (lowB b)) = l.map byD := by rw [← hl, List.map_map]; rfl
      rw [hle] at e3
      have he : 5 = e ∨ l = [] := by
        rcases eg with ⟨h0, _⟩ | ⟨_, h5, _⟩
        · right; rw [← hl]; apply List.eq_nil_of_length_eq_zero; simpa using h0
        · exact .inl h5.symm
      repeat refine seq_k fun K hK => ?_
      refine region_k rfl fun K1 hK1 => ?_
      simp [e3]
      refine ⟨he, ?_⟩
      refine hK1 _ (hK _ ?_)
      clear hK1 hK K K1
      refine pwp_ret ?_
      simp
      exact ⟨eO, by rw [← hl]; rfl⟩
end Go.Pw
