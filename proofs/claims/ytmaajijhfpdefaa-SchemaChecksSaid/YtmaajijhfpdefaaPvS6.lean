/- A part of the proof: functions of the program, walked, or what operations come to. -/
import Derived.Test.YtmaajijhfpdefaaPvS5
namespace Go.Pv
open Go.Proofs
attribute [local simp] Try.underlying29 Heap.new_get Heap.put_get
@[simp] theorem res40 : Try.f40.results.toList = [.tmp 4] := rfl
@[simp] theorem res31 : Try.f31.results.toList = [.tmp 4] := rfl
set_option maxHeartbeats 4000000 in
set_option maxRecDepth 100000 in
theorem index_spec (i : Nat) (L : List D) (l : List (List UInt8)) (s : List UInt8) (H : Heap) (hi : H.get i = some (.row 9 L)) (hL : L.take l.length = lb l) (hl : l.length ≤ 100000) : PCalls Try.prog 40 [.row i 9 0 l.length, .val (encStr s)] H fun d H' => (∃ r : Int, d = .val (.int .i64 r) ∧ (0 ≤ r ↔ s ∈ l)) ∧ H' = H := by
  refine PCalls.of_pwp Try.call40 Try.func40 rfl (by simp [Try.ntmps40]) ?_
  rw [Try.ntmps40]
  repeat (first | with_reducible refine seq_k fun K hK => ?_ | (with_reducible refine region_k fun K hK => ?_; simp [*]) | with_reducible refine pwp_block ?_ | with_reducible refine pwp_skip ?_ | with_reducible refine pwp_ret ?_ | with_reducible refine pwp_exit ?_ | (with_reducible refine cond_t ?_ ?_; (focus (simp [*]; done))) | (with_reducible refine cond_f ?_ ?_; (focus (simp [*]; done))) | with_reducible refine then_n ?_ | with_reducible refine then_r ?_ | with_reducible refine then_e ?_ | with_reducible refine then_g ?_ | with_reducible refine inB_n ?_ | with_reducible refine inB_r ?_ | with_reducible refine inB_e ?_ | with_reducible refine inB_o rfl ?_ | with_reducible refine inB_g ?_ | with_reducible refine Leads.go (by assumption) ?_)
  refine pwp_loop (fun m st => ∃ k, k ≤ l.length ∧ m = l.length - k ∧ st.env.n = 19 ∧ st.df = [] ∧ st.H = H ∧ st.env.get 0 = .row i 9 0 l.length ∧ st.env.get 1 = .val (.string ⟨s.toArray⟩) ∧ st.env.get 7 = .val (.int .i64 l.length) ∧ st.env.get 8 = .val (.int .i64 k) ∧ s ∉ l.take k) l.length ?_ ?_
  · refine ⟨0, by omega, by omega, by simp, rfl, rfl, by simp, by simp, by simp, by simp, by simp⟩
  · rintro m ⟨E, H2, df⟩ ⟨k, hk, rfl, en, edf, eH, e0, e1, e7, e8, eP⟩
    simp only at en edf eH e0 e1 e7 e8
    subst edf; subst eH
    by_cases h : k < l.length
    · have hki : (k : Int) < (l.length : Int) := by omega
      obtain ⟨c, hc⟩ : ∃ c, l[k]? = some c := ⟨_, List.getElem?_eq_getElem h⟩
      have hLk : L[k]? = some (.val (.string ⟨c.toArray⟩)) := by
        have : (L.take l.length)[k]? = L[k]? := by rw [List.getElem?_take, if_pos h]
        rw [← this, hL, lb, List.getElem?_map, hc]; rfl
      have hLl : k < L.length := (List.getElem?_eq_some_iff.1 hLk).1
      have hge : ∀ h, L[k]'h = .val (.string ⟨c.toArray⟩) := fun h => by have := hLk; rw [List.getElem?_eq_getElem h] at this; exact Option.some.inj this
      have hw := wrapSucc k (by omega)
      have hT : l.take (k + 1) = l.take k ++ [c] := by rw [List.take_add_one, hc]; rfl
      by_cases h1 : s = c
      · repeat (first | with_reducible refine seq_k fun K hK => ?_ | (with_reducible refine region_k fun K hK => ?_; simp [*]) | with_reducible refine pwp_block ?_ | with_reducible refine pwp_skip ?_ | with_reducible refine pwp_ret ?_ | with_reducible refine pwp_exit ?_ | (with_reducible refine cond_t ?_ ?_; (focus (simp [*]; done))) | (with_reducible refine cond_f ?_ ?_; (focus (simp [*]; done))) | with_reducible refine then_n ?_ | with_reducible refine then_r ?_ | with_reducible refine then_e ?_ | with_reducible refine then_g ?_ | with_reducible refine inB_n ?_ | with_reducible refine inB_r ?_ | with_reducible refine inB_e ?_ | with_reducible refine inB_o rfl ?_ | with_reducible refine inB_g ?_ | with_reducible refine Leads.go (by assumption) ?_)
        simp [*]
        exact List.mem_of_getElem? hc
      · repeat (first | with_reducible refine seq_k fun K hK => ?_ | (with_reducible refine region_k fun K hK => ?_; simp [*]) | with_reducible refine pwp_block ?_ | with_reducible refine pwp_skip ?_ | with_reducible refine pwp_ret ?_ | with_reducible refine pwp_exit ?_ | (with_reducible refine cond_t ?_ ?_; (focus (simp [*]; done))) | (with_reducible refine cond_f ?_ ?_; (focus (simp [*]; done))) | with_reducible refine then_n ?_ | with_reducible refine then_r ?_ | with_reducible refine then_e ?_ | with_reducible refine then_g ?_ | with_reducible refine inB_n ?_ | with_reducible refine inB_r ?_ | with_reducible refine inB_e ?_ | with_reducible refine inB_o rfl ?_ | with_reducible refine inB_g ?_ | with_reducible refine Leads.go (by assumption) ?_)
        refine ⟨l.length - (k + 1), by omega, k + 1, by omega, rfl, by simp [*], rfl, rfl, by simp [*], by simp [*], by simp [*], by simp [*], ?_⟩
        rw [hT, List.mem_append]
        simp [eP, h1]
    · have hks : k = l.length := by omega
      subst hks
      rw [List.take_length] at eP
      repeat (first | with_reducible refine seq_k fun K hK => ?_ | (with_reducible refine region_k fun K hK => ?_; simp [*]) | with_reducible refine pwp_block ?_ | with_reducible refine pwp_skip ?_ | with_reducible refine pwp_ret ?_ | with_reducible refine pwp_exit ?_ | (with_reducible refine cond_t ?_ ?_; (focus (simp [*]; done))) | (with_reducible refine cond_f ?_ ?_; (focus (simp [*]; done))) | with_reducible refine then_n ?_ | with_reducible refine then_r ?_ | with_reducible refine then_e ?_ | with_reducible refine then_g ?_ | with_reducible refine inB_n ?_ | with_reducible refine inB_r ?_ | with_reducible refine inB_e ?_ | with_reducible refine inB_o rfl ?_ | with_reducible refine inB_g ?_ | with_reducible refine Leads.go (by assumption) ?_)
      simp [*]
set_option maxHeartbeats 4000000 in
set_option maxRecDepth 100000 in
theorem contains_spec (i : Nat) (L : List D) (l : List (List UInt8)) (s : List UInt8) (H : Heap) (hi : H.get i = some (.row 9 L)) (hL : L.take l.length = lb l) (hl : l.length ≤ 100000) : PCalls Try.prog 31 [.row i 9 0 l.length, .val (encStr s)] H fun d H' => d = .val (.bool (decide (s ∈ l))) ∧ H' = H := by
  refine PCalls.of_pwp Try.call31 Try.func31 rfl (by simp [Try.ntmps31]) ?_
  rw [Try.ntmps31]
  repeat (first | with_reducible refine seq_k fun K hK => ?_ | (with_reducible refine region_k fun K hK => ?_; simp [*]) | with_reducible refine pwp_block ?_ | with_reducible refine pwp_skip ?_ | with_reducible refine pwp_ret ?_ | with_reducible refine pwp_exit ?_ | (with_reducible refine cond_t ?_ ?_; (focus (simp [*]; done))) | (with_reducible refine cond_f ?_ ?_; (focus (simp [*]; done))) | with_reducible refine then_n ?_ | with_reducible refine then_r ?_ | with_reducible refine then_e ?_ | with_reducible refine then_g ?_ | with_reducible refine inB_n ?_ | with_reducible refine inB_r ?_ | with_reducible refine inB_e ?_ | with_reducible refine inB_o rfl ?_ | with_reducible refine inB_g ?_ | with_reducible refine Leads.go (by assumption) ?_)
  refine PCalls.mono (index_spec i L l s H hi hL hl) ?_
  rintro _ _ ⟨⟨r, rfl, hr⟩, rfl⟩
  by_cases hm : s ∈ l
  · have hr0 : 0 ≤ r := hr.2 hm
    try simp [*]
    repeat (first | with_reducible refine seq_k fun K hK => ?_ | (with_reducible refine region_k fun K hK => ?_; simp [*]) | with_reducible refine pwp_block ?_ | with_reducible refine pwp_skip ?_ | with_reducible refine pwp_ret ?_ | with_reducible refine pwp_exit ?_ | (with_reducible refine cond_t ?_ ?_; (focus (simp [*]; done))) | (with_reducible refine cond_f ?_ ?_; (focus (simp [*]; done))) | with_reducible refine then_n ?_ | with_reducible refine then_r ?_ | with_reducible refine then_e ?_ | with_reducible refine then_g ?_ | with_reducible refine inB_n ?_ | with_reducible refine inB_r ?_ | with_reducible refine inB_e ?_ | with_reducible refine inB_o rfl ?_ | with_reducible refine inB_g ?_ | with_reducible refine Leads.go (by assumption) ?_)
    simp [*]
  · have hr0 : ¬ 0 ≤ r := fun q => hm (hr.1 q)
    try simp [*]
    repeat (first | with_reducible refine seq_k fun K hK => ?_ | (with_reducible refine region_k fun K hK => ?_; simp [*]) | with_reducible refine pwp_block ?_ | with_reducible refine pwp_skip ?_ | with_reducible refine pwp_ret ?_ | with_reducible refine pwp_exit ?_ | (with_reducible refine cond_t ?_ ?_; (focus (simp [*]; done))) | (with_reducible refine cond_f ?_ ?_; (focus (simp [*]; done))) | with_reducible refine then_n ?_ | with_reducible refine then_r ?_ | with_reducible refine then_e ?_ | with_reducible refine then_g ?_ | with_reducible refine inB_n ?_ | with_reducible refine inB_r ?_ | with_reducible refine inB_e ?_ | with_reducible refine inB_o rfl ?_ | with_reducible refine inB_g ?_ | with_reducible refine Leads.go (by assumption) ?_)
    simp [*]
@[simp] theorem res30 : Try.f30.results.toList = [.tmp 3] := rfl
set_option maxHeartbeats 4000000 in
set_option maxRecDepth 100000 in
theorem closure_spec (j i : Nat) (L : List D) (l : List (List UInt8)) (s : List UInt8) (H : Heap) (hj : H.get j = some (.cells [.row i 9 0 l.length])) (hi : H.get i = some (.row 9 L)) (hL : L.take l.length = lb l) (hl : l.length ≤ 100000) : PCalls Try.prog 30 [.val (encStr s), .ptr j 0] H fun d H' => d = .val (.bool (decide (s ∈ l))) ∧ H' = H := by
  refine PCalls.of_pwp Try.call30 Try.func30 rfl (by simp [Try.ntmps30]) ?_
  rw [Try.ntmps30]
  repeat (first | with_reducible refine seq_k fun K hK => ?_ | (with_reducible refine region_k fun K hK => ?_; simp [*]) | with_reducible refine pwp_block ?_ | with_reducible refine pwp_skip ?_ | with_reducible refine pwp_ret ?_ | with_reducible refine pwp_exit ?_ | (with_reducible refine cond_t ?_ ?_; (focus (simp [*]; done))) | (with_reducible refine cond_f ?_ ?_; (focus (simp [*]; done))) | with_reducible refine then_n ?_ | with_reducible refine then_r ?_ | with_reducible refine then_e ?_ | with_reducible refine then_g ?_ | with_reducible refine inB_n ?_ | with_reducible refine inB_r ?_ | with_reducible refine inB_e ?_ | with_reducible refine inB_o rfl ?_ | with_reducible refine inB_g ?_ | with_reducible refine Leads.go (by assumption) ?_)
  refine PCalls.mono (contains_spec i L l s H hi hL hl) ?_
  rintro _ _ ⟨rfl, rfl⟩
  try simp [*]
  repeat (first | with_reducible refine seq_k fun K hK => ?_ | (with_reducible refine region_k fun K hK => ?_; simp [*]) | with_reducible refine pwp_block ?_ | with_reducible refine pwp_skip ?_ | with_reducible refine pwp_ret ?_ | with_reducible refine pwp_exit ?_ | (with_reducible refine cond_t ?_ ?_; (focus (simp [*]; done))) | (with_reducible refine cond_f ?_ ?_; (focus (simp [*]; done))) | with_reducible refine then_n ?_ | with_reducible refine then_r ?_ | with_reducible refine then_e ?_ | with_reducible refine then_g ?_ | with_reducible refine inB_n ?_ | with_reducible refine inB_r ?_ | with_reducible refine inB_e ?_ | with_reducible refine inB_o rfl ?_ | with_reducible refine inB_g ?_ | with_reducible refine Leads.go (by assumption) ?_)
  simp [*]
end Go.Pv
