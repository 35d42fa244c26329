/- A part of the proof: functions of the program, walked, or what operations come to. -/
import Derived.Test.YtnmpinbfddjhmaaPvP4
-- ZpvTameA ZpvDrawT
namespace Go.Pv
open Go.Proofs
attribute [-simp] eLen UInt8.ofNat_add


/-! ### Classes by their names -/
def clD (k : Nat) : D := .agg [sD (nm k), sD (od k), sD (sp k), .val (.int .i64 (kd k)), listD 9 (mu k), listD 9 (ma k)]
@[simp] theorem cells_cl (k : Nat) : cellsD (clD k) = [sD (nm k), sD (od k), sD (sp k), .val (.int .i64 (kd k)), listD 9 (mu k), listD 9 (ma k)] := rfl
theorem classes_run : runFz Try.prog 100 117 [] = some (.slice 0 139 ((List.range 10).map clD)) := by kernel_rfl
set_option maxRecDepth 100000 in
theorem Classes_spec (H : Heap) : PCalls Try.prog 117 [] H fun d H' => d = .slice 0 139 ((List.range 10).map clD) ∧ H' = H :=
  PCalls.liftG (runFz_spec mixedO classes_run) (fun d hd => by cases hd) (pure_of 20 _ (by kernel_rfl)) H
@[simp] theorem zd_cl : zeroD Try.prog 139 = some (cellsD (clD 10)) := by kernel_rfl
@[simp] theorem ze_cl : zeroElem Try.prog 139 = some (clD 10) := by kernel_rfl
theorem pure_cl (k : Nat) : Pure (clD k) := .agg _ fun d hd => by
  simp only [List.mem_cons, List.mem_nil_iff, or_false] at hd
  rcases hd with rfl | rfl | rfl | rfl | rfl | rfl
  · exact .val _
  · exact .val _
  · exact .val _
  · exact .val _
  · exact pure_list _ _
  · exact pure_list _ _
attribute [local simp] Heap.new_ne Heap.put_ne fillD
set_option maxHeartbeats 4000000 in
set_option maxRecDepth 100000 in
theorem FindClass_local (s : By) (hs : s.length ≤ 100000) : PCalls Try.prog 113 [sD s] (noHeap noG) fun d _ => d = .tup [clD (fcls s), .val (.bool (decide (fcls s < 10)))] := by
  refine PCalls.of_pwp Try.call113 Try.func113 rfl (by simp [Try.ntmps113]) ?_
  rw [Try.ntmps113]
  repeat (first | (with_reducible first | refine seq_k fun K hK => ?_ | refine pwp_block ?_ | refine pwp_skip ?_ | refine pwp_ret ?_ | refine pwp_exit ?_ | refine then_n ?_ | refine then_r ?_ | refine then_e ?_ | refine then_g ?_ | refine inB_n ?_ | refine inB_r ?_ | refine inB_e ?_ | refine inB_o rfl ?_ | refine inB_g ?_ | refine Leads.go (by assumption) ?_) | (with_reducible refine region_k fun K hK => ?_; simp [*]) | (with_reducible refine region_drawT_k mixedO (by decide +kernel) fun K hK => ?_; simp [*]) | (with_reducible refine region_tame_a mixedO (by decide +kernel) fun K hK => ?_; simp [*, Low, isLoadB, isTameB, List.range_succ, List.range']) | (with_reducible refine cond_t ?_ ?_; (focus (simp [*]; done))) | (with_reducible refine cond_f ?_ ?_; (focus (simp [*]; done))))
  refine PCalls.mono (Lower_spec s hs _) ?_
  intro d3 H3 hd3
  rw [hd3.1, hd3.2]
  clear hd3
  try simp [*]
  repeat (first | (with_reducible first | refine seq_k fun K hK => ?_ | refine pwp_block ?_ | refine pwp_skip ?_ | refine pwp_ret ?_ | refine pwp_exit ?_ | refine then_n ?_ | refine then_r ?_ | refine then_e ?_ | refine then_g ?_ | refine inB_n ?_ | refine inB_r ?_ | refine inB_e ?_ | refine inB_o rfl ?_ | refine inB_g ?_ | refine Leads.go (by assumption) ?_) | (with_reducible refine region_k fun K hK => ?_; simp [*]) | (with_reducible refine region_drawT_k mixedO (by decide +kernel) fun K hK => ?_; simp [*]) | (with_reducible refine region_tame_a mixedO (by decide +kernel) fun K hK => ?_; simp [*, Low, isLoadB, isTameB, List.range_succ, List.range']) | (with_reducible refine cond_t ?_ ?_; (focus (simp [*]; done))) | (with_reducible refine cond_f ?_ ?_; (focus (simp [*]; done))))
  refine PCalls.mono (Classes_spec _) ?_
  intro d3 H3 hd3
  rw [hd3.1, hd3.2]
  clear hd3
  try simp [*]
  repeat (first | (with_reducible first | refine seq_k fun K hK => ?_ | refine pwp_block ?_ | refine pwp_skip ?_ | refine pwp_ret ?_ | refine pwp_exit ?_ | refine then_n ?_ | refine then_r ?_ | refine then_e ?_ | refine then_g ?_ | refine inB_n ?_ | refine inB_r ?_ | refine inB_e ?_ | refine inB_o rfl ?_ | refine inB_g ?_ | refine Leads.go (by assumption) ?_) | (with_reducible refine region_k fun K hK => ?_; simp [*]) | (with_reducible refine region_drawT_k mixedO (by decide +kernel) fun K hK => ?_; simp [*]) | (with_reducible refine region_tame_a mixedO (by decide +kernel) fun K hK => ?_; simp [*, Low, isLoadB, isTameB, List.range_succ, List.range']) | (with_reducible refine cond_t ?_ ?_; (focus (simp [*]; done))) | (with_reducible refine cond_f ?_ ?_; (focus (simp [*]; done))))
  refine pwp_loop (fun m st => ∃ k, k ≤ 10 ∧ m = 10 - k ∧ st.env.n = 29 ∧ st.df = [] ∧ st.env.get 0 = sD s ∧ st.env.get 2 = .ptr 0 0 ∧ st.env.get 4 = sD (lowL s) ∧ st.env.get 9 = .slice 0 139 ((List.range 10).map clD) ∧
    st.env.get 10 = .val (.int .i64 10) ∧ st.env.get 11 = .val (.int .i64 k) ∧ 0 < st.H.nx ∧ st.H.get 0 = some (.cells (cellsD (clD 10))) ∧ ∀ j, j < k → hit s j = false) 10 ?_ ?_
  · refine ⟨0, by omega, by omega, by simp, rfl, by simp, by simp, by simp, by simp, by simp, by simp, Nat.zero_lt_succ _, Heap.new_same _ _, fun j hj => by omega⟩
  · rintro m ⟨E, H, df⟩ ⟨k, hk, rfl, en, edf, e0, e2, e4, e9, e10, e11, eN, eH, eP⟩
    simp only at en edf e0 e2 e4 e9 e10 e11 eN eH
    subst edf
    by_cases h : k < 10
    · have hki : (k : Int) < 10 := by omega
      have hL : ((List.range 10).map clD)[k]? = some (clD k) := by rw [List.getElem?_map, List.getElem?_range h]; rfl
      have hLl : ((List.range 10).map clD).length = 10 := by simp
      have hge := get_of hL
      have hns := nm_small k
      generalize (List.range 10).map clD = L at *
      have hn0 : (0 : Nat) ≠ H.nx := by omega
      have hw := wrapSucc k (by omega)
      by_cases h1 : lowL s = lowL (nm k)
      · repeat (first | (with_reducible first | refine seq_k fun K hK => ?_ | refine pwp_block ?_ | refine pwp_skip ?_ | refine pwp_ret ?_ | refine pwp_exit ?_ | refine then_n ?_ | refine then_r ?_ | refine then_e ?_ | refine then_g ?_ | refine inB_n ?_ | refine inB_r ?_ | refine inB_e ?_ | refine inB_o rfl ?_ | refine inB_g ?_ | refine Leads.go (by assumption) ?_) | (with_reducible refine region_k fun K hK => ?_; simp [*]) | (with_reducible refine region_drawT_k mixedO (by decide +kernel) fun K hK => ?_; simp [*]) | (with_reducible refine region_tame_a mixedO (by decide +kernel) fun K hK => ?_; simp [*, Low, isLoadB, isTameB, List.range_succ, List.range']) | (with_reducible refine cond_t ?_ ?_; (focus (simp [*]; done))) | (with_reducible refine cond_f ?_ ?_; (focus (simp [*]; done))))
        refine PCalls.mono (Lower_spec (nm k) hns _) ?_
        intro d3 H3 hd3
        rw [hd3.1, hd3.2]
        clear hd3
        try simp [*]
        try simp [*]
        repeat (first | (with_reducible first | refine seq_k fun K hK => ?_ | refine pwp_block ?_ | refine pwp_skip ?_ | refine pwp_ret ?_ | refine pwp_exit ?_ | refine then_n ?_ | refine then_r ?_ | refine then_e ?_ | refine then_g ?_ | refine inB_n ?_ | refine inB_r ?_ | refine inB_e ?_ | refine inB_o rfl ?_ | refine inB_g ?_ | refine Leads.go (by assumption) ?_) | (with_reducible refine region_k fun K hK => ?_; simp [*]) | (with_reducible refine region_drawT_k mixedO (by decide +kernel) fun K hK => ?_; simp [*]) | (with_reducible refine region_tame_a mixedO (by decide +kernel) fun K hK => ?_; simp [*, Low, isLoadB, isTameB, List.range_succ, List.range']) | (with_reducible refine cond_t ?_ ?_; (focus (simp [*]; done))) | (with_reducible refine cond_f ?_ ?_; (focus (simp [*]; done))))
        have hf : fcls s = k := fcls_of h (by simp [hit, h1]) eP
        rw [hf]
        simp [*]
        try rfl
      · by_cases h2 : s = od k
        · subst h2
          repeat (first | (with_reducible first | refine seq_k fun K hK => ?_ | refine pwp_block ?_ | refine pwp_skip ?_ | refine pwp_ret ?_ | refine pwp_exit ?_ | refine then_n ?_ | refine then_r ?_ | refine then_e ?_ | refine then_g ?_ | refine inB_n ?_ | refine inB_r ?_ | refine inB_e ?_ | refine inB_o rfl ?_ | refine inB_g ?_ | refine Leads.go (by assumption) ?_) | (with_reducible refine region_k fun K hK => ?_; simp [*]) | (with_reducible refine region_drawT_k mixedO (by decide +kernel) fun K hK => ?_; simp [*]) | (with_reducible refine region_tame_a mixedO (by decide +kernel) fun K hK => ?_; simp [*, Low, isLoadB, isTameB, List.range_succ, List.range']) | (with_reducible refine cond_t ?_ ?_; (focus (simp [*]; done))) | (with_reducible refine cond_f ?_ ?_; (focus (simp [*]; done))))
          refine PCalls.mono (Lower_spec (nm k) hns _) ?_
          intro d3 H3 hd3
          rw [hd3.1, hd3.2]
          clear hd3
          try simp [*]
          try simp [*]
          repeat (first | (with_reducible first | refine seq_k fun K hK => ?_ | refine pwp_block ?_ | refine pwp_skip ?_ | refine pwp_ret ?_ | refine pwp_exit ?_ | refine then_n ?_ | refine then_r ?_ | refine then_e ?_ | refine then_g ?_ | refine inB_n ?_ | refine inB_r ?_ | refine inB_e ?_ | refine inB_o rfl ?_ | refine inB_g ?_ | refine Leads.go (by assumption) ?_) | (with_reducible refine region_k fun K hK => ?_; simp [*]) | (with_reducible refine region_drawT_k mixedO (by decide +kernel) fun K hK => ?_; simp [*]) | (with_reducible refine region_tame_a mixedO (by decide +kernel) fun K hK => ?_; simp [*, Low, isLoadB, isTameB, List.range_succ, List.range']) | (with_reducible refine cond_t ?_ ?_; (focus (simp [*]; done))) | (with_reducible refine cond_f ?_ ?_; (focus (simp [*]; done))))
          have hf : fcls (od k) = k := fcls_of h (by simp [hit]) eP
          rw [hf]
          simp [*]
          try rfl
        · repeat (first | (with_reducible first | refine seq_k fun K hK => ?_ | refine pwp_block ?_ | refine pwp_skip ?_ | refine pwp_ret ?_ | refine pwp_exit ?_ | refine then_n ?_ | refine then_r ?_ | refine then_e ?_ | refine then_g ?_ | refine inB_n ?_ | refine inB_r ?_ | refine inB_e ?_ | refine inB_o rfl ?_ | refine inB_g ?_ | refine Leads.go (by assumption) ?_) | (with_reducible refine region_k fun K hK => ?_; simp [*]) | (with_reducible refine region_drawT_k mixedO (by decide +kernel) fun K hK => ?_; simp [*]) | (with_reducible refine region_tame_a mixedO (by decide +kernel) fun K hK => ?_; simp [*, Low, isLoadB, isTameB, List.range_succ, List.range']) | (with_reducible refine cond_t ?_ ?_; (focus (simp [*]; done))) | (with_reducible refine cond_f ?_ ?_; (focus (simp [*]; done))))
          refine PCalls.mono (Lower_spec (nm k) hns _) ?_
          intro d3 H3 hd3
          rw [hd3.1, hd3.2]
          clear hd3
          try simp [*]
          try simp [*]
          repeat (first | (with_reducible first | refine seq_k fun K hK => ?_ | refine pwp_block ?_ | refine pwp_skip ?_ | refine pwp_ret ?_ | refine pwp_exit ?_ | refine then_n ?_ | refine then_r ?_ | refine then_e ?_ | refine then_g ?_ | refine inB_n ?_ | refine inB_r ?_ | refine inB_e ?_ | refine inB_o rfl ?_ | refine inB_g ?_ | refine Leads.go (by assumption) ?_) | (with_reducible refine region_k fun K hK => ?_; simp [*]) | (with_reducible refine region_drawT_k mixedO (by decide +kernel) fun K hK => ?_; simp [*]) | (with_reducible refine region_tame_a mixedO (by decide +kernel) fun K hK => ?_; simp [*, Low, isLoadB, isTameB, List.range_succ, List.range']) | (with_reducible refine cond_t ?_ ?_; (focus (simp [*]; done))) | (with_reducible refine cond_f ?_ ?_; (focus (simp [*]; done))))
          refine ⟨10 - (k + 1), by omega, k + 1, by omega, rfl, ?_⟩
          simp [*]
          intro j hj
          rcases Nat.lt_or_ge j k with q | q
          · exact eP j q
          · have : j = k := by omega
            subst this
            simp [hit, h1, h2]
    · have hks : k = 10 := by omega
      subst hks
      repeat (first | (with_reducible first | refine seq_k fun K hK => ?_ | refine pwp_block ?_ | refine pwp_skip ?_ | refine pwp_ret ?_ | refine pwp_exit ?_ | refine then_n ?_ | refine then_r ?_ | refine then_e ?_ | refine then_g ?_ | refine inB_n ?_ | refine inB_r ?_ | refine inB_e ?_ | refine inB_o rfl ?_ | refine inB_g ?_ | refine Leads.go (by assumption) ?_) | (with_reducible refine region_k fun K hK => ?_; simp [*]) | (with_reducible refine region_drawT_k mixedO (by decide +kernel) fun K hK => ?_; simp [*]) | (with_reducible refine region_tame_a mixedO (by decide +kernel) fun K hK => ?_; simp [*, Low, isLoadB, isTameB, List.range_succ, List.range']) | (with_reducible refine cond_t ?_ ?_; (focus (simp [*]; done))) | (with_reducible refine cond_f ?_ ?_; (focus (simp [*]; done))))
      rw [fcls_none eP]
      simp [*]
      try rfl
set_option maxRecDepth 100000 in
theorem FindClass_spec (s : By) (hs : s.length ≤ 100000) (H : Heap) : PCalls Try.prog 113 [sD s] H fun d H' => d = .tup [clD (fcls s), .val (.bool (decide (fcls s < 10)))] ∧ H' = H :=
  PCalls.liftG (FindClass_local s hs) (fun d hd => by simp only [List.mem_cons, List.mem_nil_iff, or_false] at hd; subst hd; exact .val _)
    (.tup _ fun d hd => by simp only [List.mem_cons, List.mem_nil_iff, or_false] at hd; rcases hd with rfl | rfl; exact pure_cl _; exact .val _) H
end Go.Pv
