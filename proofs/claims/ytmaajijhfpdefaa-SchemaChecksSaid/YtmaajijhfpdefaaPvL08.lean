/- A part of the proof: functions of the program, walked, or what operations come to. -/
import Derived.Test.YtmaajijhfpdefaaPvFz
import Derived.Test.YtmaajijhfpdefaaProg
import Derived.KernelRfl
namespace Go.Pv
open Go.Proofs
attribute [simp] Try.underlying3 Try.underlying4 Try.underlying5 Try.underlying9 Try.underlying23 Try.underlying37 Try.underlying62 Try.underlying47
@[simp] theorem sz5 : szOf Try.prog 5 = 1 := by kernel_rfl
def lowB (c : UInt8) : UInt8 := if 65 ≤ c ∧ c ≤ 90 then c + 32 else c
def lowS (s : ByteArray) : ByteArray := ⟨(s.data.toList.map lowB).toArray⟩
def mixed (l : List UInt8) (k : Nat) : List UInt8 := (l.take k).map lowB ++ l.drop k
theorem mixed_length (l : List UInt8) (k : Nat) : (mixed l k).length = l.length := by simp [mixed]; omega
theorem mixed_get (l : List UInt8) (k : Nat) (h : k < l.length) : (mixed l k)[k]? = some l[k] := by
  have : ((l.take k).map lowB).length = k := by simp; omega
  rw [mixed, List.getElem?_append_right (by omega), this]; simp [h]
theorem mixed_succ (l : List UInt8) (k : Nat) (h : k < l.length) : mixed l (k + 1) = (mixed l k).set k (lowB l[k]) := by
  have h1 : ((l.take k).map lowB).length = k := by simp; omega
  rw [mixed, mixed, List.set_append_right _ _ (by omega), h1, Nat.sub_self, List.drop_eq_getElem_cons h, List.set_cons_zero, List.take_succ_eq_append_getElem h, List.map_append, List.append_assoc]
  rfl
theorem mixed_zero (l : List UInt8) : mixed l 0 = l := by simp [mixed]
theorem mixed_all (l : List UInt8) : mixed l l.length = l.map lowB := by simp [mixed]
theorem set_same {α : Type} (l : List α) (k : Nat) (x : α) (h : l[k]? = some x) : l.set k x = l := by
  apply List.ext_getElem?
  intro i
  rw [List.getElem?_set]
  split
  · rename_i e; subst e
    split
    · exact h.symm
    · rename_i h2; exact absurd (List.getElem?_eq_some_iff.1 h).1 h2
  · rfl
theorem lowB_up (c : UInt8) (h1 : 65 ≤ (c.toNat : Int)) (h2 : (c.toNat : Int) ≤ 90) : D.val (.int .u8 (IntKind.u8.wrap ((c.toNat : Int) + 32))) = byD (lowB c) := by
  have e1 : 65 ≤ c := UInt8.le_iff_toNat_le.2 (by simpa using (by omega : 65 ≤ c.toNat))
  have e2 : c ≤ 90 := UInt8.le_iff_toNat_le.2 (by simpa using (by omega : c.toNat ≤ 90))
  have e3 : (c + 32).toNat = c.toNat + 32 := by simp [UInt8.toNat_add]; omega
  have e4 : IntKind.u8.wrap ((c.toNat : Int) + 32) = ((c.toNat + 32 : Nat) : Int) := by
    simp [IntKind.wrap, IntKind.bits, IntKind.signed]; omega
  rw [e4, lowB, if_pos ⟨e1, e2⟩, byD, e3]
theorem lowB_keep (c : UInt8) (h : ¬ (65 ≤ (c.toNat : Int) ∧ (c.toNat : Int) ≤ 90)) : lowB c = c := by
  unfold lowB
  rw [if_neg]
  rintro ⟨e1, e2⟩
  have := UInt8.le_iff_toNat_le.1 e1
  have := UInt8.le_iff_toNat_le.1 e2
  simp at *
  omega

theorem wrapSucc (k : Nat) (h : k < 140737488351232) : IntKind.i64.wrap ((k : Int) + 1) = ((k + 1 : Nat) : Int) := by
  simp [IntKind.wrap, IntKind.bits, IntKind.signed]; omega
@[simp] theorem eToStr_by (l : List UInt8) : eToStr (l.map byD) = some (.val (.string ⟨l.toArray⟩)) := by
  have h : (l.map byD).all isByteD = true := by simp [byD, isByteD]
  have h2 : (l.map byD).map toByteD = l := by
    rw [List.map_map]
    have : (toByteD ∘ byD) = id := by funext c; simp [byD, toByteD]
    rw [this, List.map_id]
  rw [eToStr, if_pos h, h2]
@[simp] theorem cells_by (c : UInt8) : cellsD (byD c) = [byD c] := rfl
attribute [local simp] byD
@[simp] theorem res24 : Try.f24.results.toList = [.tmp 2] := rfl
set_option maxRecDepth 100000 in
theorem Lower_local (s : ByteArray) (hs : s.size ≤ 140737488351232) : PCalls Try.prog 24 [.val (.string s)] (noHeap fun _ => none) fun d _ => d = .val (.string (lowS s)) := by
  refine PCalls.of_pwp Try.call24 Try.func24 rfl (by simp [Try.ntmps24]) ?_
  rw [Try.ntmps24]
  repeat (first | with_reducible refine seq_k fun K hK => ?_ | (with_reducible refine region_k fun K hK => ?_; simp [*]) | with_reducible refine pwp_block ?_ | with_reducible refine pwp_skip ?_ | with_reducible refine pwp_ret ?_ | with_reducible refine pwp_exit ?_ | (with_reducible refine cond_t ?_ ?_; (focus (simp [*]; done))) | (with_reducible refine cond_f ?_ ?_; (focus (simp [*]; done))) | with_reducible refine then_n ?_ | with_reducible refine then_r ?_ | with_reducible refine then_e ?_ | with_reducible refine then_g ?_ | with_reducible refine inB_n ?_ | with_reducible refine inB_r ?_ | with_reducible refine inB_e ?_ | with_reducible refine inB_o rfl ?_ | with_reducible refine inB_g ?_ | with_reducible refine Leads.go (by assumption) ?_)
  refine ⟨by simp [maxLen]; omega, ?_⟩
  repeat (first | with_reducible refine seq_k fun K hK => ?_ | (with_reducible refine region_k fun K hK => ?_; simp [*]) | with_reducible refine pwp_block ?_ | with_reducible refine pwp_skip ?_ | with_reducible refine pwp_ret ?_ | with_reducible refine pwp_exit ?_ | (with_reducible refine cond_t ?_ ?_; (focus (simp [*]; done))) | (with_reducible refine cond_f ?_ ?_; (focus (simp [*]; done))) | with_reducible refine then_n ?_ | with_reducible refine then_r ?_ | with_reducible refine then_e ?_ | with_reducible refine then_g ?_ | with_reducible refine inB_n ?_ | with_reducible refine inB_r ?_ | with_reducible refine inB_e ?_ | with_reducible refine inB_o rfl ?_ | with_reducible refine inB_g ?_ | with_reducible refine Leads.go (by assumption) ?_)
  refine pwp_loop (fun m st => ∃ k, k ≤ s.size ∧ m = s.size - k ∧ st.env.n = 29 ∧ st.df = [] ∧ st.env.get 3 = .row 0 5 0 s.size ∧ st.env.get 8 = .row 0 5 0 s.size ∧ st.env.get 9 = .val (.int .i64 s.size) ∧ st.env.get 10 = .val (.int .i64 k) ∧
    st.H.get 0 = some (.row 5 ((mixed s.data.toList k).map byD))) s.size ?_ ?_
  · refine ⟨0, by omega, by omega, by simp, rfl, by simp; rfl, by simp; rfl, by simp, by simp, ?_⟩
    rw [mixed_zero]; exact Heap.new_same _ _
  · rintro m ⟨E, H, df⟩ ⟨k, hk, rfl, en, edf, e3, e8, e9, e10, eH⟩
    simp only at en edf e3 e8 e9 e10 eH
    subst edf
    by_cases h : k < s.size
    · have hk' : k < s.data.toList.length := by simpa using h
      have hki : (k : Int) < (s.size : Int) := by omega
      obtain ⟨c, hc⟩ : ∃ c, s.data.toList[k] = c := ⟨_, rfl⟩
      have hg : (mixed s.data.toList k)[k]? = some c := by rw [← hc]; exact mixed_get _ _ hk'
      have hml : k < (mixed s.data.toList k).length := by rw [mixed_length]; exact hk'
      have hge : ∀ h, (mixed s.data.toList k)[k]'h = c := fun h => by have := hg; rw [List.getElem?_eq_getElem h] at this; exact Option.some.inj this
      have hw := wrapSucc k (by omega)
      by_cases h1 : 65 ≤ (c.toNat : Int)
      · by_cases h2 : (c.toNat : Int) ≤ 90
        · repeat (first | with_reducible refine seq_k fun K hK => ?_ | (with_reducible refine region_k fun K hK => ?_; simp [*]) | with_reducible refine pwp_block ?_ | with_reducible refine pwp_skip ?_ | with_reducible refine pwp_ret ?_ | with_reducible refine pwp_exit ?_ | (with_reducible refine cond_t ?_ ?_; (focus (simp [*]; done))) | (with_reducible refine cond_f ?_ ?_; (focus (simp [*]; done))) | with_reducible refine then_n ?_ | with_reducible refine then_r ?_ | with_reducible refine then_e ?_ | with_reducible refine then_g ?_ | with_reducible refine inB_n ?_ | with_reducible refine inB_r ?_ | with_reducible refine inB_e ?_ | with_reducible refine inB_o rfl ?_ | with_reducible refine inB_g ?_ | with_reducible refine Leads.go (by assumption) ?_)
          refine ⟨s.size - (k + 1), by omega, k + 1, by omega, rfl, ?_⟩
          simp [*]
          show (List.map byD (mixed s.data.toList k)).set k (D.val (Value.int IntKind.u8 (IntKind.u8.wrap (c.toNat + 32)))) = _
          rw [lowB_up c h1 h2, mixed_succ _ _ hk', List.map_set, hc]
        · repeat (first | with_reducible refine seq_k fun K hK => ?_ | (with_reducible refine region_k fun K hK => ?_; simp [*]) | with_reducible refine pwp_block ?_ | with_reducible refine pwp_skip ?_ | with_reducible refine pwp_ret ?_ | with_reducible refine pwp_exit ?_ | (with_reducible refine cond_t ?_ ?_; (focus (simp [*]; done))) | (with_reducible refine cond_f ?_ ?_; (focus (simp [*]; done))) | with_reducible refine then_n ?_ | with_reducible refine then_r ?_ | with_reducible refine then_e ?_ | with_reducible refine then_g ?_ | with_reducible refine inB_n ?_ | with_reducible refine inB_r ?_ | with_reducible refine inB_e ?_ | with_reducible refine inB_o rfl ?_ | with_reducible refine inB_g ?_ | with_reducible refine Leads.go (by assumption) ?_)
          refine ⟨s.size - (k + 1), by omega, k + 1, by omega, rfl, ?_⟩
          simp [*]
          rw [mixed_succ _ _ hk', hc, lowB_keep c (fun h => h2 h.2), set_same _ _ _ hg]
      · repeat (first | with_reducible refine seq_k fun K hK => ?_ | (with_reducible refine region_k fun K hK => ?_; simp [*]) | with_reducible refine pwp_block ?_ | with_reducible refine pwp_skip ?_ | with_reducible refine pwp_ret ?_ | with_reducible refine pwp_exit ?_ | (with_reducible refine cond_t ?_ ?_; (focus (simp [*]; done))) | (with_reducible refine cond_f ?_ ?_; (focus (simp [*]; done))) | with_reducible refine then_n ?_ | with_reducible refine then_r ?_ | with_reducible refine then_e ?_ | with_reducible refine then_g ?_ | with_reducible refine inB_n ?_ | with_reducible refine inB_r ?_ | with_reducible refine inB_e ?_ | with_reducible refine inB_o rfl ?_ | with_reducible refine inB_g ?_ | with_reducible refine Leads.go (by assumption) ?_)
        refine ⟨s.size - (k + 1), by omega, k + 1, by omega, rfl, ?_⟩
        simp [*]
        rw [mixed_succ _ _ hk', hc, lowB_keep c (fun h => h1 h.1), set_same _ _ _ hg]
    · have hks : k = s.size := by omega
      subst hks
      obtain ⟨l, hl⟩ : ∃ l, mixed s.data.toList s.size = l := ⟨_, rfl⟩
      have hll : l.length = s.size := by rw [← hl, mixed_length]; simp
      have htk : l.take s.size = l := List.take_of_length_le (by omega)
      have htb : List.take s.size (List.map byD l) = List.map byD l := by rw [← List.map_take, htk]
      rw [hl] at eH
      repeat (first | with_reducible refine seq_k fun K hK => ?_ | (with_reducible refine region_k fun K hK => ?_; simp [*]) | with_reducible refine pwp_block ?_ | with_reducible refine pwp_skip ?_ | with_reducible refine pwp_ret ?_ | with_reducible refine pwp_exit ?_ | (with_reducible refine cond_t ?_ ?_; (focus (simp [*]; done))) | (with_reducible refine cond_f ?_ ?_; (focus (simp [*]; done))) | with_reducible refine then_n ?_ | with_reducible refine then_r ?_ | with_reducible refine then_e ?_ | with_reducible refine then_g ?_ | with_reducible refine inB_n ?_ | with_reducible refine inB_r ?_ | with_reducible refine inB_e ?_ | with_reducible refine inB_o rfl ?_ | with_reducible refine inB_g ?_ | with_reducible refine Leads.go (by assumption) ?_)
      simp [*]
      rw [← hl, lowS, ← mixed_all]
      simp
theorem Lower_spec (s : ByteArray) (H : Heap) (hs : s.size ≤ 140737488351232) : PCalls Try.prog 24 [.val (.string s)] H fun d H' => d = .val (.string (lowS s)) ∧ H' = H :=
  PCalls.alone (vs := [.string s]) (Lower_local s hs) H
end Go.Pv
