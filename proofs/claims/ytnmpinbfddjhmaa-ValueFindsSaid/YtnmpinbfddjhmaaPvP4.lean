/- A part of the proof: functions of the program, walked, or what operations come to. -/
import Derived.Test.YtnmpinbfddjhmaaPvV3
import Derived.Test.YtnmpinbfddjhmaaPvN3
import Derived.Test.YtnmpinbfddjhmaaPvT8
-- ZpvTameA ZpvDrawT
namespace Go.Pv
open Go.Proofs
attribute [-simp] eLen UInt8.ofNat_add

/-! ### Small letters -/
def mixed (l : By) (k : Nat) : By := (l.take k).map lowB ++ l.drop k
theorem mixed_length (l : By) (k : Nat) : (mixed l k).length = l.length := by simp [mixed]; omega
theorem mixed_get (l : By) (k : Nat) (c : UInt8) (h : l[k]? = some c) : (mixed l k)[k]? = some c := by
  have hk := (List.getElem?_eq_some_iff.1 h).1
  have : ((l.take k).map lowB).length = k := by simp; omega
  rw [mixed, List.getElem?_append_right (by omega), this]; simp [h]
theorem mixed_succ (l : By) (k : Nat) (c : UInt8) (h : l[k]? = some c) : mixed l (k + 1) = (mixed l k).set k (lowB c) := by
  have hk := (List.getElem?_eq_some_iff.1 h).1
  have h1 : ((l.take k).map lowB).length = k := by simp; omega
  have hc : l[k] = c := by rw [List.getElem?_eq_getElem hk] at h; exact Option.some.inj h
  rw [mixed, mixed, List.set_append_right _ _ (by omega), h1, Nat.sub_self, List.drop_eq_getElem_cons hk, List.set_cons_zero, List.take_succ_eq_append_getElem hk, List.map_append, List.append_assoc, hc]
  rfl
theorem mixed_zero (l : By) : mixed l 0 = l := by simp [mixed]
theorem mixed_all (l : By) : mixed l l.length = l.map lowB := by simp [mixed]
theorem lowB_up (c : UInt8) (h1 : 65 ≤ (c.toNat : Int)) (h2 : (c.toNat : Int) ≤ 90) : D.val (.int .u8 (IntKind.u8.wrap ((c.toNat : Int) + 32))) = byD (lowB c) := by
  have e1 : 65 ≤ c := UInt8.le_iff_toNat_le.2 (by simpa using (by omega : 65 ≤ c.toNat))
  have e2 : c ≤ 90 := UInt8.le_iff_toNat_le.2 (by simpa using (by omega : c.toNat ≤ 90))
  have e3 : (c + 32).toNat = c.toNat + 32 := by simp [UInt8.toNat_add]; omega
  rw [wrapB _ (by omega) (by omega), lowB, if_pos ⟨e1, e2⟩, byD, e3]; rfl
theorem lowB_keep (c : UInt8) (h : ¬ (65 ≤ (c.toNat : Int) ∧ (c.toNat : Int) ≤ 90)) : lowB c = c := by
  unfold lowB
  rw [if_neg]
  rintro ⟨e1, e2⟩
  have := UInt8.le_iff_toNat_le.1 e1
  have := UInt8.le_iff_toNat_le.1 e2
  simp at *
  omega
theorem set_same {α : Type} (l : List α) (k : Nat) (x : α) (h : l[k]? = some x) : l.set k x = l := by
  apply List.ext_getElem?
  intro i
  rw [List.getElem?_set]
  split
  · rename_i e; subst e
    split
    · exact h.symm
    · rename_i h2; exact absurd (List.getElem?_eq_some_iff.1 h).1 h2
  · rfl
/-- A row of bytes that is turned byte by byte. -/
def LowAt (l : By) (k : Nat) (H : Heap) : Prop := H.get 0 = some (.row 5 ((mixed l k).map byD))
set_option maxHeartbeats 4000000 in
set_option maxRecDepth 100000 in
theorem Lower_local (l : By) (hl : l.length ≤ 100000) : PCalls Try.prog 114 [sD l] (noHeap noG) fun d _ => d = sD (lowL l) := by
  refine PCalls.of_pwp Try.call114 Try.func114 rfl (by simp [Try.ntmps114]) ?_
  rw [Try.ntmps114]
  have hmx : (l.length : Int) ≤ 9223372036854775807 := by omega
  have hmn : l.length ≤ maxLen := by have : maxLen = 9223372036854775807 := rfl; omega
  repeat (first | (with_reducible first | refine seq_k fun K hK => ?_ | refine pwp_block ?_ | refine pwp_skip ?_ | refine pwp_ret ?_ | refine pwp_exit ?_ | refine then_n ?_ | refine then_r ?_ | refine then_e ?_ | refine then_g ?_ | refine inB_n ?_ | refine inB_r ?_ | refine inB_e ?_ | refine inB_o rfl ?_ | refine inB_g ?_ | refine Leads.go (by assumption) ?_) | (with_reducible refine region_k fun K hK => ?_; simp [*]) | (with_reducible refine region_drawT_k mixedO (by decide +kernel) fun K hK => ?_; simp [*]) | (with_reducible refine region_tame_a mixedO (by decide +kernel) fun K hK => ?_; simp [*, Low, isLoadB, isTameB, List.range_succ, List.range']) | (with_reducible refine cond_t ?_ ?_; (focus (simp [*]; done))) | (with_reducible refine cond_f ?_ ?_; (focus (simp [*]; done))))
  refine pwp_for (l.length) (fun k st => st.env.n = 29 ∧ st.df = [] ∧ st.env.get 3 = .row 0 5 0 l.length ∧ st.env.get 8 = .row 0 5 0 l.length ∧ st.env.get 9 = .val (.int .i64 (l.length : Nat)) ∧ st.env.get 10 = .val (.int .i64 (k : Nat)) ∧ (LowAt l k st.H)) ⟨by first | (simp; done) | (simp [*]; done), rfl, by first | (simp; done) | (simp [*]; done), by first | (simp; done) | (simp [*]; done), by first | (simp; done) | (simp [*]; done), by first | (simp; done) | (simp [*]; done), ?_⟩ ?_ ?_
  · unfold LowAt; rw [mixed_zero]; simp
  · rintro k ⟨E, Hx, df⟩ hk ⟨en, edf, e3, e8, e9, e10, eP⟩
    simp only at en edf e3 e8 e9 e10
    subst edf
    have hki : (k : Int) < ((l.length : Nat) : Int) := by omega
    have hkw := wrapSucc k (by omega)
    unfold LowAt at eP
    simp only at eP
    obtain ⟨c, hc⟩ : ∃ c, l[k]? = some c := ⟨_, List.getElem?_eq_getElem hk⟩
    have hg := mixed_get l k c hc
    have hsc := mixed_succ l k c hc
    have hml := mixed_length l k
    obtain ⟨M, hM⟩ : ∃ M, (mixed l k).map byD = M := ⟨_, rfl⟩
    have hMk : M[k]? = some (byD c) := by rw [← hM, List.getElem?_map, hg]; rfl
    have hMl : M.length = l.length := by rw [← hM]; simpa using hml
    have hset : M.set k (byD (lowB c)) = (mixed l (k + 1)).map byD := by rw [← hM, hsc, List.map_set]
    have hMg := get_of hMk
    rw [hM] at eP
    simp only [byD] at hMk hMg
    by_cases h1 : 65 ≤ (c.toNat : Int)
    · by_cases h2 : (c.toNat : Int) ≤ 90
      · have hup := lowB_up c h1 h2
        clear hM hsc hg
        repeat (first | (with_reducible first | refine seq_k fun K hK => ?_ | refine pwp_block ?_ | refine pwp_skip ?_ | refine pwp_ret ?_ | refine pwp_exit ?_ | refine then_n ?_ | refine then_r ?_ | refine then_e ?_ | refine then_g ?_ | refine inB_n ?_ | refine inB_r ?_ | refine inB_e ?_ | refine inB_o rfl ?_ | refine inB_g ?_ | refine Leads.go (by assumption) ?_) | (with_reducible refine region_k fun K hK => ?_; simp [*]) | (with_reducible refine region_drawT_k mixedO (by decide +kernel) fun K hK => ?_; simp [*]) | (with_reducible refine region_tame_a mixedO (by decide +kernel) fun K hK => ?_; simp [*, Low, isLoadB, isTameB, List.range_succ, List.range']) | (with_reducible refine cond_t ?_ ?_; (focus (simp [*]; done))) | (with_reducible refine cond_f ?_ ?_; (focus (simp [*]; done))))
        simp [*]
        unfold LowAt
        simp [*]
      · have hkp := lowB_keep c (fun h => h2 h.2)
        have hs2 : (mixed l (k + 1)).map byD = M := by rw [← hset, hkp]; exact set_same M k (byD c) hMk
        clear hM hsc hg hset
        repeat (first | (with_reducible first | refine seq_k fun K hK => ?_ | refine pwp_block ?_ | refine pwp_skip ?_ | refine pwp_ret ?_ | refine pwp_exit ?_ | refine then_n ?_ | refine then_r ?_ | refine then_e ?_ | refine then_g ?_ | refine inB_n ?_ | refine inB_r ?_ | refine inB_e ?_ | refine inB_o rfl ?_ | refine inB_g ?_ | refine Leads.go (by assumption) ?_) | (with_reducible refine region_k fun K hK => ?_; simp [*]) | (with_reducible refine region_drawT_k mixedO (by decide +kernel) fun K hK => ?_; simp [*]) | (with_reducible refine region_tame_a mixedO (by decide +kernel) fun K hK => ?_; simp [*, Low, isLoadB, isTameB, List.range_succ, List.range']) | (with_reducible refine cond_t ?_ ?_; (focus (simp [*]; done))) | (with_reducible refine cond_f ?_ ?_; (focus (simp [*]; done))))
        simp [*]
        unfold LowAt
        rw [hs2]; exact eP
    · have hkp := lowB_keep c (fun h => h1 h.1)
      have hs2 : (mixed l (k + 1)).map byD = M := by rw [← hset, hkp]; exact set_same M k (byD c) hMk
      clear hM hsc hg hset
      repeat (first | (with_reducible first | refine seq_k fun K hK => ?_ | refine pwp_block ?_ | refine pwp_skip ?_ | refine pwp_ret ?_ | refine pwp_exit ?_ | refine then_n ?_ | refine then_r ?_ | refine then_e ?_ | refine then_g ?_ | refine inB_n ?_ | refine inB_r ?_ | refine inB_e ?_ | refine inB_o rfl ?_ | refine inB_g ?_ | refine Leads.go (by assumption) ?_) | (with_reducible refine region_k fun K hK => ?_; simp [*]) | (with_reducible refine region_drawT_k mixedO (by decide +kernel) fun K hK => ?_; simp [*]) | (with_reducible refine region_tame_a mixedO (by decide +kernel) fun K hK => ?_; simp [*, Low, isLoadB, isTameB, List.range_succ, List.range']) | (with_reducible refine cond_t ?_ ?_; (focus (simp [*]; done))) | (with_reducible refine cond_f ?_ ?_; (focus (simp [*]; done))))
      simp [*]
      unfold LowAt
      rw [hs2]; exact eP
  · rintro ⟨E, Hx, df⟩ ⟨en, edf, e3, e8, e9, e10, eP⟩
    simp only at en edf e3 e8 e9 e10
    subst edf
    unfold LowAt at eP
    rw [mixed_all] at eP
    simp only at eP
    have hts := eToStr_by (l.map lowB)
    have hll : ((l.map lowB).map byD).length = l.length := by simp
    have htk : ((l.map lowB).map byD).take l.length = (l.map lowB).map byD := List.take_of_length_le (by omega)
    obtain ⟨M, hM⟩ : ∃ M, (l.map lowB).map byD = M := ⟨_, rfl⟩
    rw [hM] at eP hts hll htk
    clear hM
    repeat (first | (with_reducible first | refine seq_k fun K hK => ?_ | refine pwp_block ?_ | refine pwp_skip ?_ | refine pwp_ret ?_ | refine pwp_exit ?_ | refine then_n ?_ | refine then_r ?_ | refine then_e ?_ | refine then_g ?_ | refine inB_n ?_ | refine inB_r ?_ | refine inB_e ?_ | refine inB_o rfl ?_ | refine inB_g ?_ | refine Leads.go (by assumption) ?_) | (with_reducible refine region_k fun K hK => ?_; simp [*]) | (with_reducible refine region_drawT_k mixedO (by decide +kernel) fun K hK => ?_; simp [*]) | (with_reducible refine region_tame_a mixedO (by decide +kernel) fun K hK => ?_; simp [*, Low, isLoadB, isTameB, List.range_succ, List.range']) | (with_reducible refine cond_t ?_ ?_; (focus (simp [*]; done))) | (with_reducible refine cond_f ?_ ?_; (focus (simp [*]; done))))
    simp [*, lowL]
set_option maxRecDepth 100000 in
theorem Lower_spec (l : By) (hl : l.length ≤ 100000) (H : Heap) : PCalls Try.prog 114 [sD l] H fun d H' => d = sD (lowL l) ∧ H' = H :=
  PCalls.alone (vs := [.string ⟨l.toArray⟩]) (Lower_local l hl) H
end Go.Pv
