/- A part of the proof: functions of the program, walked, or what operations come to. -/
import Derived.Test.YtnmpinbfddjhmaaPvP7
import Derived.Test.YtnmpinbfddjhmaaPvV8
import Derived.Test.YtnmpinbfddjhmaaPvTameA
-- ZpvTameA ZpvDrawT
namespace Go.Pv
open Go.Proofs
attribute [-simp] eLen UInt8.ofNat_add



/-! ### The order of values; Key, Check, Equal -/
def cmpL (a b : By) : Int := Lib.compareBytes a b
set_option maxRecDepth 100000 in
theorem cmpstring_spec (a b : By) (H : Heap) : PCalls Try.prog 47 [sD a, sD b] H fun d H' => d = .val (.int .i64 (cmpL a b)) ∧ H' = H :=
  prOf_sound (x := (47, .compare)) ⟨_, Try.func47, by kernel_rfl, by kernel_rfl, by kernel_rfl, by kernel_rfl⟩ rfl
set_option maxHeartbeats 4000000 in
set_option maxRecDepth 100000 in
theorem CompareString_spec (a b : By) (H : Heap) : PCalls Try.prog 46 [sD a, sD b] H fun d H' => d = .val (.int .i64 (cmpL a b)) ∧ H' = H := by
  refine PCalls.of_pwp Try.call46 Try.func46 rfl (by simp [Try.ntmps46]) ?_
  rw [Try.ntmps46]
  repeat (first | (with_reducible first | refine seq_k fun K hK => ?_ | refine pwp_block ?_ | refine pwp_skip ?_ | refine pwp_ret ?_ | refine pwp_exit ?_ | refine then_n ?_ | refine then_r ?_ | refine then_e ?_ | refine then_g ?_ | refine inB_n ?_ | refine inB_r ?_ | refine inB_e ?_ | refine inB_o rfl ?_ | refine inB_g ?_ | refine Leads.go (by assumption) ?_) | (with_reducible refine region_k fun K hK => ?_; simp [*]) | (with_reducible refine region_drawT_k mixedO (by decide +kernel) fun K hK => ?_; simp [*]) | (with_reducible refine region_tame_a mixedO (by decide +kernel) fun K hK => ?_; simp [*, Low, isLoadB, isTameB, List.range_succ, List.range']) | (with_reducible refine cond_t ?_ ?_; (focus (simp [*]; done))) | (with_reducible refine cond_f ?_ ?_; (focus (simp [*]; done))))
  refine PCalls.mono (cmpstring_spec a b _) ?_
  intro d3 H3 hd3
  rw [hd3.1, hd3.2]
  clear hd3
  try simp [*]
  try simp [*]
  repeat (first | (with_reducible first | refine seq_k fun K hK => ?_ | refine pwp_block ?_ | refine pwp_skip ?_ | refine pwp_ret ?_ | refine pwp_exit ?_ | refine then_n ?_ | refine then_r ?_ | refine then_e ?_ | refine then_g ?_ | refine inB_n ?_ | refine inB_r ?_ | refine inB_e ?_ | refine inB_o rfl ?_ | refine inB_g ?_ | refine Leads.go (by assumption) ?_) | (with_reducible refine region_k fun K hK => ?_; simp [*]) | (with_reducible refine region_drawT_k mixedO (by decide +kernel) fun K hK => ?_; simp [*]) | (with_reducible refine region_tame_a mixedO (by decide +kernel) fun K hK => ?_; simp [*, Low, isLoadB, isTameB, List.range_succ, List.range']) | (with_reducible refine cond_t ?_ ?_; (focus (simp [*]; done))) | (with_reducible refine cond_f ?_ ?_; (focus (simp [*]; done))))
  simp [*]
set_option maxHeartbeats 4000000 in
set_option maxRecDepth 100000 in
theorem Compare_spec (a b : By) (H : Heap) : PCalls Try.prog 45 [sD a, sD b] H fun d H' => d = .val (.int .i64 (cmpL a b)) ∧ H' = H := by
  refine PCalls.of_pwp Try.call45 Try.func45 rfl (by simp [Try.ntmps45]) ?_
  rw [Try.ntmps45]
  repeat (first | (with_reducible first | refine seq_k fun K hK => ?_ | refine pwp_block ?_ | refine pwp_skip ?_ | refine pwp_ret ?_ | refine pwp_exit ?_ | refine then_n ?_ | refine then_r ?_ | refine then_e ?_ | refine then_g ?_ | refine inB_n ?_ | refine inB_r ?_ | refine inB_e ?_ | refine inB_o rfl ?_ | refine inB_g ?_ | refine Leads.go (by assumption) ?_) | (with_reducible refine region_k fun K hK => ?_; simp [*]) | (with_reducible refine region_drawT_k mixedO (by decide +kernel) fun K hK => ?_; simp [*]) | (with_reducible refine region_tame_a mixedO (by decide +kernel) fun K hK => ?_; simp [*, Low, isLoadB, isTameB, List.range_succ, List.range']) | (with_reducible refine cond_t ?_ ?_; (focus (simp [*]; done))) | (with_reducible refine cond_f ?_ ?_; (focus (simp [*]; done))))
  refine PCalls.mono (CompareString_spec a b _) ?_
  intro d3 H3 hd3
  rw [hd3.1, hd3.2]
  clear hd3
  try simp [*]
  try simp [*]
  repeat (first | (with_reducible first | refine seq_k fun K hK => ?_ | refine pwp_block ?_ | refine pwp_skip ?_ | refine pwp_ret ?_ | refine pwp_exit ?_ | refine then_n ?_ | refine then_r ?_ | refine then_e ?_ | refine then_g ?_ | refine inB_n ?_ | refine inB_r ?_ | refine inB_e ?_ | refine inB_o rfl ?_ | refine inB_g ?_ | refine Leads.go (by assumption) ?_) | (with_reducible refine region_k fun K hK => ?_; simp [*]) | (with_reducible refine region_drawT_k mixedO (by decide +kernel) fun K hK => ?_; simp [*]) | (with_reducible refine region_tame_a mixedO (by decide +kernel) fun K hK => ?_; simp [*, Low, isLoadB, isTameB, List.range_succ, List.range']) | (with_reducible refine cond_t ?_ ?_; (focus (simp [*]; done))) | (with_reducible refine cond_f ?_ ?_; (focus (simp [*]; done))))
  simp [*]
def ordD (x : Int × Bool) : D := .tup [.val (.int .i64 x.1), .val (.bool x.2)]
theorem pure_ordD (x : Int × Bool) : Pure (ordD x) := .tup _ fun d hd => by
  simp only [List.mem_cons, List.mem_nil_iff, or_false] at hd
  rcases hd with rfl | rfl <;> exact .val _
theorem pure_recv2 (a b : By) : ∀ d ∈ [recv, sD a, sD b], Pure d := fun d hd => by
  simp only [List.mem_cons, List.mem_nil_iff, or_false] at hd
  rcases hd with rfl | rfl | rfl
  · exact .agg _ fun d hd => by cases hd
  · exact .val _
  · exact .val _
attribute [local simp] recv optK ordD
set_option maxHeartbeats 4000000 in
set_option maxRecDepth 100000 in
theorem plainOrder_spec (a b : By) (H : Heap) : PCalls Try.prog 43 [recv, sD a, sD b] H fun d H' => d = ordD (cmpL a b, true) ∧ H' = H := by
  refine PCalls.liftG ?_ (pure_recv2 a b) (pure_ordD _) H
  refine PCalls.of_pwp Try.call43 Try.func43 rfl (by simp [Try.ntmps43]) ?_
  rw [Try.ntmps43]
  repeat (first | (with_reducible first | refine seq_k fun K hK => ?_ | refine pwp_block ?_ | refine pwp_skip ?_ | refine pwp_ret ?_ | refine pwp_exit ?_ | refine then_n ?_ | refine then_r ?_ | refine then_e ?_ | refine then_g ?_ | refine inB_n ?_ | refine inB_r ?_ | refine inB_e ?_ | refine inB_o rfl ?_ | refine inB_g ?_ | refine Leads.go (by assumption) ?_) | (with_reducible refine region_k fun K hK => ?_; simp [*]) | (with_reducible refine region_drawT_k mixedO (by decide +kernel) fun K hK => ?_; simp [*]) | (with_reducible refine region_tame_a mixedO (by decide +kernel) fun K hK => ?_; simp [*, Low, isLoadB, isTameB, List.range_succ, List.range']) | (with_reducible refine cond_t ?_ ?_; (focus (simp [*]; done))) | (with_reducible refine cond_f ?_ ?_; (focus (simp [*]; done))))
  refine PCalls.mono (Compare_spec a b _) ?_
  intro d3 H3 hd3
  rw [hd3.1, hd3.2]
  clear hd3
  try simp [*]
  try simp [*]
  repeat (first | (with_reducible first | refine seq_k fun K hK => ?_ | refine pwp_block ?_ | refine pwp_skip ?_ | refine pwp_ret ?_ | refine pwp_exit ?_ | refine then_n ?_ | refine then_r ?_ | refine then_e ?_ | refine then_g ?_ | refine inB_n ?_ | refine inB_r ?_ | refine inB_e ?_ | refine inB_o rfl ?_ | refine inB_g ?_ | refine Leads.go (by assumption) ?_) | (with_reducible refine region_k fun K hK => ?_; simp [*]) | (with_reducible refine region_drawT_k mixedO (by decide +kernel) fun K hK => ?_; simp [*]) | (with_reducible refine region_tame_a mixedO (by decide +kernel) fun K hK => ?_; simp [*, Low, isLoadB, isTameB, List.range_succ, List.range']) | (with_reducible refine cond_t ?_ ?_; (focus (simp [*]; done))) | (with_reducible refine cond_f ?_ ?_; (focus (simp [*]; done))))
  simp [*]
set_option maxHeartbeats 4000000 in
set_option maxRecDepth 100000 in
theorem numberOrder_spec (a b : By) (ha : a.length ≤ 100000) (hb : b.length ≤ 100000) (H : Heap) : PCalls Try.prog 68 [recv, sD a, sD b] H fun d H' => d = ordD (wcmp (sizedM a) (sizedM b), true) ∧ H' = H := by
  refine PCalls.liftG ?_ (pure_recv2 a b) (pure_ordD _) H
  refine PCalls.of_pwp Try.call68 Try.func68 rfl (by simp [Try.ntmps68]) ?_
  rw [Try.ntmps68]
  repeat (first | (with_reducible first | refine seq_k fun K hK => ?_ | refine pwp_block ?_ | refine pwp_skip ?_ | refine pwp_ret ?_ | refine pwp_exit ?_ | refine then_n ?_ | refine then_r ?_ | refine then_e ?_ | refine then_g ?_ | refine inB_n ?_ | refine inB_r ?_ | refine inB_e ?_ | refine inB_o rfl ?_ | refine inB_g ?_ | refine Leads.go (by assumption) ?_) | (with_reducible refine region_k fun K hK => ?_; simp [*]) | (with_reducible refine region_drawT_k mixedO (by decide +kernel) fun K hK => ?_; simp [*]) | (with_reducible refine region_tame_a mixedO (by decide +kernel) fun K hK => ?_; simp [*, Low, isLoadB, isTameB, List.range_succ, List.range']) | (with_reducible refine cond_t ?_ ?_; (focus (simp [*]; done))) | (with_reducible refine cond_f ?_ ?_; (focus (simp [*]; done))))
  refine PCalls.mono (wCompare_spec a b ha hb _) ?_
  intro d3 H3 hd3
  rw [hd3.1, hd3.2]
  clear hd3
  try simp [*]
  try simp [*]
  repeat (first | (with_reducible first | refine seq_k fun K hK => ?_ | refine pwp_block ?_ | refine pwp_skip ?_ | refine pwp_ret ?_ | refine pwp_exit ?_ | refine then_n ?_ | refine then_r ?_ | refine then_e ?_ | refine then_g ?_ | refine inB_n ?_ | refine inB_r ?_ | refine inB_e ?_ | refine inB_o rfl ?_ | refine inB_g ?_ | refine Leads.go (by assumption) ?_) | (with_reducible refine region_k fun K hK => ?_; simp [*]) | (with_reducible refine region_drawT_k mixedO (by decide +kernel) fun K hK => ?_; simp [*]) | (with_reducible refine region_tame_a mixedO (by decide +kernel) fun K hK => ?_; simp [*, Low, isLoadB, isTameB, List.range_succ, List.range']) | (with_reducible refine cond_t ?_ ?_; (focus (simp [*]; done))) | (with_reducible refine cond_f ?_ ?_; (focus (simp [*]; done))))
  simp [*]
set_option maxHeartbeats 4000000 in
set_option maxRecDepth 100000 in
theorem truthOrder_spec (a b : By) (H : Heap) : PCalls Try.prog 88 [recv, sD a, sD b] H fun d H' => d = ordD (0, false) ∧ H' = H := by
  refine PCalls.liftG ?_ (pure_recv2 a b) (pure_ordD _) H
  refine PCalls.of_pwp Try.call88 Try.func88 rfl (by simp [Try.ntmps88]) ?_
  rw [Try.ntmps88]
  repeat (first | (with_reducible first | refine seq_k fun K hK => ?_ | refine pwp_block ?_ | refine pwp_skip ?_ | refine pwp_ret ?_ | refine pwp_exit ?_ | refine then_n ?_ | refine then_r ?_ | refine then_e ?_ | refine then_g ?_ | refine inB_n ?_ | refine inB_r ?_ | refine inB_e ?_ | refine inB_o rfl ?_ | refine inB_g ?_ | refine Leads.go (by assumption) ?_) | (with_reducible refine region_k fun K hK => ?_; simp [*]) | (with_reducible refine region_drawT_k mixedO (by decide +kernel) fun K hK => ?_; simp [*]) | (with_reducible refine region_tame_a mixedO (by decide +kernel) fun K hK => ?_; simp [*, Low, isLoadB, isTameB, List.range_succ, List.range']) | (with_reducible refine cond_t ?_ ?_; (focus (simp [*]; done))) | (with_reducible refine cond_f ?_ ?_; (focus (simp [*]; done))))
  simp [*]
set_option maxHeartbeats 4000000 in
set_option maxRecDepth 100000 in
theorem objectOrder_spec (a b : By) (H : Heap) : PCalls Try.prog 112 [recv, sD a, sD b] H fun d H' => d = ordD (0, false) ∧ H' = H := by
  refine PCalls.liftG ?_ (pure_recv2 a b) (pure_ordD _) H
  refine PCalls.of_pwp Try.call112 Try.func112 rfl (by simp [Try.ntmps112]) ?_
  rw [Try.ntmps112]
  repeat (first | (with_reducible first | refine seq_k fun K hK => ?_ | refine pwp_block ?_ | refine pwp_skip ?_ | refine pwp_ret ?_ | refine pwp_exit ?_ | refine then_n ?_ | refine then_r ?_ | refine then_e ?_ | refine then_g ?_ | refine inB_n ?_ | refine inB_r ?_ | refine inB_e ?_ | refine inB_o rfl ?_ | refine inB_g ?_ | refine Leads.go (by assumption) ?_) | (with_reducible refine region_k fun K hK => ?_; simp [*]) | (with_reducible refine region_drawT_k mixedO (by decide +kernel) fun K hK => ?_; simp [*]) | (with_reducible refine region_tame_a mixedO (by decide +kernel) fun K hK => ?_; simp [*, Low, isLoadB, isTameB, List.range_succ, List.range']) | (with_reducible refine cond_t ?_ ?_; (focus (simp [*]; done))) | (with_reducible refine cond_f ?_ ?_; (focus (simp [*]; done))))
  simp [*]
def pordM (a b : By) : Int := orderF ((parseM a).getD 0) ((parseM b).getD 0)
set_option maxHeartbeats 4000000 in
set_option maxRecDepth 100000 in
theorem pointOrder_spec (a b : By) (H : Heap) : PCalls Try.prog 102 [recv, sD a, sD b] H fun d H' => d = ordD (pordM a b, true) ∧ H' = H := by
  refine PCalls.liftG ?_ (pure_recv2 a b) (pure_ordD _) H
  refine PCalls.of_pwp Try.call102 Try.func102 rfl (by simp [Try.ntmps102]) ?_
  rw [Try.ntmps102]
  repeat (first | (with_reducible first | refine seq_k fun K hK => ?_ | refine pwp_block ?_ | refine pwp_skip ?_ | refine pwp_ret ?_ | refine pwp_exit ?_ | refine then_n ?_ | refine then_r ?_ | refine then_e ?_ | refine then_g ?_ | refine inB_n ?_ | refine inB_r ?_ | refine inB_e ?_ | refine inB_o rfl ?_ | refine inB_g ?_ | refine Leads.go (by assumption) ?_) | (with_reducible refine region_k fun K hK => ?_; simp [*]) | (with_reducible refine region_drawT_k mixedO (by decide +kernel) fun K hK => ?_; simp [*]) | (with_reducible refine region_tame_a mixedO (by decide +kernel) fun K hK => ?_; simp [*, Low, isLoadB, isTameB, List.range_succ, List.range']) | (with_reducible refine cond_t ?_ ?_; (focus (simp [*]; done))) | (with_reducible refine cond_f ?_ ?_; (focus (simp [*]; done))))
  refine PCalls.mono (fParse_spec a _) ?_
  intro d3 H3 hd3
  rw [hd3.1, hd3.2]
  clear hd3
  try simp [*]
  simp only [fltD]
  try simp [*]
  repeat (first | (with_reducible first | refine seq_k fun K hK => ?_ | refine pwp_block ?_ | refine pwp_skip ?_ | refine pwp_ret ?_ | refine pwp_exit ?_ | refine then_n ?_ | refine then_r ?_ | refine then_e ?_ | refine then_g ?_ | refine inB_n ?_ | refine inB_r ?_ | refine inB_e ?_ | refine inB_o rfl ?_ | refine inB_g ?_ | refine Leads.go (by assumption) ?_) | (with_reducible refine region_k fun K hK => ?_; simp [*]) | (with_reducible refine region_drawT_k mixedO (by decide +kernel) fun K hK => ?_; simp [*]) | (with_reducible refine region_tame_a mixedO (by decide +kernel) fun K hK => ?_; simp [*, Low, isLoadB, isTameB, List.range_succ, List.range']) | (with_reducible refine cond_t ?_ ?_; (focus (simp [*]; done))) | (with_reducible refine cond_f ?_ ?_; (focus (simp [*]; done))))
  refine PCalls.mono (fParse_spec b _) ?_
  intro d3 H3 hd3
  rw [hd3.1, hd3.2]
  clear hd3
  try simp [*]
  simp only [fltD]
  try simp [*]
  repeat (first | (with_reducible first | refine seq_k fun K hK => ?_ | refine pwp_block ?_ | refine pwp_skip ?_ | refine pwp_ret ?_ | refine pwp_exit ?_ | refine then_n ?_ | refine then_r ?_ | refine then_e ?_ | refine then_g ?_ | refine inB_n ?_ | refine inB_r ?_ | refine inB_e ?_ | refine inB_o rfl ?_ | refine inB_g ?_ | refine Leads.go (by assumption) ?_) | (with_reducible refine region_k fun K hK => ?_; simp [*]) | (with_reducible refine region_drawT_k mixedO (by decide +kernel) fun K hK => ?_; simp [*]) | (with_reducible refine region_tame_a mixedO (by decide +kernel) fun K hK => ?_; simp [*, Low, isLoadB, isTameB, List.range_succ, List.range']) | (with_reducible refine cond_t ?_ ?_; (focus (simp [*]; done))) | (with_reducible refine cond_f ?_ ?_; (focus (simp [*]; done))))
  refine PCalls.mono (fOrder_spec _ _ _) ?_
  intro d3 H3 hd3
  rw [hd3.1, hd3.2]
  clear hd3
  try simp [*]
  try simp [*]
  repeat (first | (with_reducible first | refine seq_k fun K hK => ?_ | refine pwp_block ?_ | refine pwp_skip ?_ | refine pwp_ret ?_ | refine pwp_exit ?_ | refine then_n ?_ | refine then_r ?_ | refine then_e ?_ | refine then_g ?_ | refine inB_n ?_ | refine inB_r ?_ | refine inB_e ?_ | refine inB_o rfl ?_ | refine inB_g ?_ | refine Leads.go (by assumption) ?_) | (with_reducible refine region_k fun K hK => ?_; simp [*]) | (with_reducible refine region_drawT_k mixedO (by decide +kernel) fun K hK => ?_; simp [*]) | (with_reducible refine region_tame_a mixedO (by decide +kernel) fun K hK => ?_; simp [*, Low, isLoadB, isTameB, List.range_succ, List.range']) | (with_reducible refine cond_t ?_ ?_; (focus (simp [*]; done))) | (with_reducible refine cond_f ?_ ?_; (focus (simp [*]; done))))
  simp [*, pordM]
def orderK (s : Int) (a b : By) : Int × Bool :=
  if s = 3 then (wcmp (sizedM a) (sizedM b), true) else if s = 4 then (0, false) else if s = 8 then (pordM a b, true) else if s = 9 then (0, false) else (cmpL a b, true)
def ruleO (s : Int) : Nat := if s = 3 then 68 else if s = 4 then 88 else if s = 8 then 102 else if s = 9 then 112 else 43
set_option maxRecDepth 100000 in
theorem orderK_spec (s : Int) (a b : By) (hs : s = 3 → a.length ≤ 100000 ∧ b.length ≤ 100000) (H : Heap) : PCalls Try.prog (ruleO s) [recv, sD a, sD b] H fun d H' => d = ordD (orderK s a b) ∧ H' = H := by
  unfold ruleO orderK
  split
  · rename_i h; exact numberOrder_spec a b (hs h).1 (hs h).2 H
  split
  · exact truthOrder_spec a b H
  split
  · exact pointOrder_spec a b H
  split
  · exact objectOrder_spec a b H
  · exact plainOrder_spec a b H
theorem mo_words : eMethod Try.prog 51 (.agg []) "peerage/value.order" = some (43, .agg []) := by kernel_rfl
theorem mo_exact : eMethod Try.prog 52 (.agg []) "peerage/value.order" = some (43, .agg []) := by kernel_rfl
theorem mo_number : eMethod Try.prog 53 (.agg []) "peerage/value.order" = some (68, .agg []) := by kernel_rfl
theorem mo_truth : eMethod Try.prog 54 (.agg []) "peerage/value.order" = some (88, .agg []) := by kernel_rfl
theorem mo_octets : eMethod Try.prog 55 (.agg []) "peerage/value.order" = some (43, .agg []) := by kernel_rfl
theorem mo_digits : eMethod Try.prog 56 (.agg []) "peerage/value.order" = some (43, .agg []) := by kernel_rfl
theorem mo_point : eMethod Try.prog 57 (.agg []) "peerage/value.order" = some (102, .agg []) := by kernel_rfl
theorem mo_object : eMethod Try.prog 58 (.agg []) "peerage/value.order" = some (112, .agg []) := by kernel_rfl
theorem mo_plainNone : eMethod Try.prog 59 (.agg []) "peerage/value.order" = some (43, .agg []) := by kernel_rfl
set_option maxRecDepth 100000 in
theorem rule_ord (s : Int) : ∃ t, ruleD s = .ifc t (.agg []) ∧ eMethod Try.prog t (.agg []) "peerage/value.order" = some (ruleO s, .agg []) := by
  unfold ruleD ruleO
  by_cases h1 : s = 1
  · subst h1; exact ⟨_, rfl, mo_words⟩
  by_cases h2 : s = 2
  · subst h2; exact ⟨_, rfl, mo_exact⟩
  by_cases h3 : s = 3
  · subst h3; exact ⟨_, rfl, mo_number⟩
  by_cases h4 : s = 4
  · subst h4; exact ⟨_, rfl, mo_truth⟩
  by_cases h5 : s = 5
  · subst h5; exact ⟨_, rfl, mo_octets⟩
  by_cases h7 : s = 7
  · subst h7; exact ⟨_, rfl, mo_digits⟩
  by_cases h8 : s = 8
  · subst h8; exact ⟨_, rfl, mo_point⟩
  by_cases h9 : s = 9
  · subst h9; exact ⟨_, rfl, mo_object⟩
  rw [if_neg h1, if_neg h2, if_neg h3, if_neg h4, if_neg h5, if_neg h7, if_neg h8, if_neg h9, if_neg h3, if_neg h4, if_neg h8, if_neg h9]
  exact ⟨_, rfl, mo_plainNone⟩
set_option maxHeartbeats 4000000 in
set_option maxRecDepth 100000 in
theorem Key_spec (s : Int) (l : By) (hl : l.length ≤ 100000) (H : Heap) (hG : MaxIs H 0) : PCalls Try.prog 6 [.val (.int .i64 s), sD l] H fun d H' => d = optK ((holdM s l).getD []) (holdM s l).isSome ∧ H' = H := by
  refine PCalls.liftM (fun m => ?_) (fun d hd => by
    simp only [List.mem_cons, List.mem_nil_iff, or_false] at hd
    rcases hd with rfl | rfl <;> exact .val _) (pure_optK _ _) hG
  refine PCalls.of_pwp Try.call6 Try.func6 rfl (by simp [Try.ntmps6]) ?_
  rw [Try.ntmps6]
  repeat (first | (with_reducible first | refine seq_k fun K hK => ?_ | refine pwp_block ?_ | refine pwp_skip ?_ | refine pwp_ret ?_ | refine pwp_exit ?_ | refine then_n ?_ | refine then_r ?_ | refine then_e ?_ | refine then_g ?_ | refine inB_n ?_ | refine inB_r ?_ | refine inB_e ?_ | refine inB_o rfl ?_ | refine inB_g ?_ | refine Leads.go (by assumption) ?_) | (with_reducible refine region_k fun K hK => ?_; simp [*]) | (with_reducible refine region_drawT_k mixedO (by decide +kernel) fun K hK => ?_; simp [*]) | (with_reducible refine region_tame_a mixedO (by decide +kernel) fun K hK => ?_; simp [*, Low, isLoadB, isTameB, List.range_succ, List.range']) | (with_reducible refine cond_t ?_ ?_; (focus (simp [*]; done))) | (with_reducible refine cond_f ?_ ?_; (focus (simp [*]; done))))
  refine PCalls.mono (hold_spec s l hl _ (by exact maxG_is _ m rfl)) ?_
  intro d3 H3 hd3
  rw [hd3.1, hd3.2]
  clear hd3
  try simp [*]
  simp only [heldD]
  try simp [*]
  repeat (first | (with_reducible first | refine seq_k fun K hK => ?_ | refine pwp_block ?_ | refine pwp_skip ?_ | refine pwp_ret ?_ | refine pwp_exit ?_ | refine then_n ?_ | refine then_r ?_ | refine then_e ?_ | refine then_g ?_ | refine inB_n ?_ | refine inB_r ?_ | refine inB_e ?_ | refine inB_o rfl ?_ | refine inB_g ?_ | refine Leads.go (by assumption) ?_) | (with_reducible refine region_k fun K hK => ?_; simp [*]) | (with_reducible refine region_drawT_k mixedO (by decide +kernel) fun K hK => ?_; simp [*]) | (with_reducible refine region_tame_a mixedO (by decide +kernel) fun K hK => ?_; simp [*, Low, isLoadB, isTameB, List.range_succ, List.range']) | (with_reducible refine cond_t ?_ ?_; (focus (simp [*]; done))) | (with_reducible refine cond_f ?_ ?_; (focus (simp [*]; done))))
  simp [*]
def equalM (s : Int) (a b : By) : Bool := (holdM s a).isSome && decide (holdM s a = holdM s b)
@[simp] theorem fk_held : flatKinds Try.prog 36 = some [.s, .b] := by kernel_rfl
set_option maxHeartbeats 4000000 in
set_option maxRecDepth 100000 in
theorem Equal_spec (s : Int) (a b : By) (ha : a.length ≤ 100000) (hb : b.length ≤ 100000) (H : Heap) (hG : MaxIs H 0) : PCalls Try.prog 8 [.val (.int .i64 s), sD a, sD b] H fun d H' => d = .val (.bool (equalM s a b)) ∧ H' = H := by
  refine PCalls.liftM (fun m => ?_) (fun d hd => by
    simp only [List.mem_cons, List.mem_nil_iff, or_false] at hd
    rcases hd with rfl | rfl | rfl <;> exact .val _) (.val _) hG
  refine PCalls.of_pwp Try.call8 Try.func8 rfl (by simp [Try.ntmps8]) ?_
  rw [Try.ntmps8]
  have hA := hold_spec s a ha
  have hB := hold_spec s b hb
  have he : equalM s a b = ((holdM s a).isSome && decide (holdM s a = holdM s b)) := rfl
  obtain ⟨x, hx⟩ : ∃ x, holdM s a = x := ⟨_, rfl⟩
  obtain ⟨y, hy⟩ : ∃ x, holdM s b = x := ⟨_, rfl⟩
  rw [hx] at hA he
  rw [hy] at hB he
  repeat (first | (with_reducible first | refine seq_k fun K hK => ?_ | refine pwp_block ?_ | refine pwp_skip ?_ | refine pwp_ret ?_ | refine pwp_exit ?_ | refine then_n ?_ | refine then_r ?_ | refine then_e ?_ | refine then_g ?_ | refine inB_n ?_ | refine inB_r ?_ | refine inB_e ?_ | refine inB_o rfl ?_ | refine inB_g ?_ | refine Leads.go (by assumption) ?_) | (with_reducible refine region_k fun K hK => ?_; simp [*]) | (with_reducible refine region_drawT_k mixedO (by decide +kernel) fun K hK => ?_; simp [*]) | (with_reducible refine region_tame_a mixedO (by decide +kernel) fun K hK => ?_; simp [*, Low, isLoadB, isTameB, List.range_succ, List.range']) | (with_reducible refine cond_t ?_ ?_; (focus (simp [*]; done))) | (with_reducible refine cond_f ?_ ?_; (focus (simp [*]; done))))
  refine PCalls.mono (hA _ (by exact maxG_is _ m rfl)) ?_
  intro d3 H3 hd3
  rw [hd3.1, hd3.2]
  clear hd3
  try simp [*]
  rcases x with _ | x
  · have he2 : equalM s a b = false := he
    clear he
    simp only [heldD]
    try simp [*]
    repeat (first | (with_reducible first | refine seq_k fun K hK => ?_ | refine pwp_block ?_ | refine pwp_skip ?_ | refine pwp_ret ?_ | refine pwp_exit ?_ | refine then_n ?_ | refine then_r ?_ | refine then_e ?_ | refine then_g ?_ | refine inB_n ?_ | refine inB_r ?_ | refine inB_e ?_ | refine inB_o rfl ?_ | refine inB_g ?_ | refine Leads.go (by assumption) ?_) | (with_reducible refine region_k fun K hK => ?_; simp [*]) | (with_reducible refine region_drawT_k mixedO (by decide +kernel) fun K hK => ?_; simp [*]) | (with_reducible refine region_tame_a mixedO (by decide +kernel) fun K hK => ?_; simp [*, Low, isLoadB, isTameB, List.range_succ, List.range']) | (with_reducible refine cond_t ?_ ?_; (focus (simp [*]; done))) | (with_reducible refine cond_f ?_ ?_; (focus (simp [*]; done))))
    simp [*]
  · simp only [heldD]
    try simp [*]
    repeat (first | (with_reducible first | refine seq_k fun K hK => ?_ | refine pwp_block ?_ | refine pwp_skip ?_ | refine pwp_ret ?_ | refine pwp_exit ?_ | refine then_n ?_ | refine then_r ?_ | refine then_e ?_ | refine then_g ?_ | refine inB_n ?_ | refine inB_r ?_ | refine inB_e ?_ | refine inB_o rfl ?_ | refine inB_g ?_ | refine Leads.go (by assumption) ?_) | (with_reducible refine region_k fun K hK => ?_; simp [*]) | (with_reducible refine region_drawT_k mixedO (by decide +kernel) fun K hK => ?_; simp [*]) | (with_reducible refine region_tame_a mixedO (by decide +kernel) fun K hK => ?_; simp [*, Low, isLoadB, isTameB, List.range_succ, List.range']) | (with_reducible refine cond_t ?_ ?_; (focus (simp [*]; done))) | (with_reducible refine cond_f ?_ ?_; (focus (simp [*]; done))))
    refine PCalls.mono (hB _ (by exact maxG_is _ m rfl)) ?_
    rintro d4 H4 ⟨rfl, rfl⟩
    rcases y with _ | y
    · have he2 : equalM s a b = false := he
      clear he
      simp [*, heldD, EqLow]
      repeat (first | (with_reducible first | refine seq_k fun K hK => ?_ | refine pwp_block ?_ | refine pwp_skip ?_ | refine pwp_ret ?_ | refine pwp_exit ?_ | refine then_n ?_ | refine then_r ?_ | refine then_e ?_ | refine then_g ?_ | refine inB_n ?_ | refine inB_r ?_ | refine inB_e ?_ | refine inB_o rfl ?_ | refine inB_g ?_ | refine Leads.go (by assumption) ?_) | (with_reducible refine region_k fun K hK => ?_; simp [*]) | (with_reducible refine region_drawT_k mixedO (by decide +kernel) fun K hK => ?_; simp [*]) | (with_reducible refine region_tame_a mixedO (by decide +kernel) fun K hK => ?_; simp [*, Low, isLoadB, isTameB, List.range_succ, List.range']) | (with_reducible refine cond_t ?_ ?_; (focus (simp [*]; done))) | (with_reducible refine cond_f ?_ ?_; (focus (simp [*]; done))))
      simp [*]
    · have he2 : equalM s a b = decide (x = y) := by rw [he]; simp
      clear he
      by_cases hxy : x = y
      · subst hxy
        simp [*, heldD, EqLow]
        repeat (first | (with_reducible first | refine seq_k fun K hK => ?_ | refine pwp_block ?_ | refine pwp_skip ?_ | refine pwp_ret ?_ | refine pwp_exit ?_ | refine then_n ?_ | refine then_r ?_ | refine then_e ?_ | refine then_g ?_ | refine inB_n ?_ | refine inB_r ?_ | refine inB_e ?_ | refine inB_o rfl ?_ | refine inB_g ?_ | refine Leads.go (by assumption) ?_) | (with_reducible refine region_k fun K hK => ?_; simp [*]) | (with_reducible refine region_drawT_k mixedO (by decide +kernel) fun K hK => ?_; simp [*]) | (with_reducible refine region_tame_a mixedO (by decide +kernel) fun K hK => ?_; simp [*, Low, isLoadB, isTameB, List.range_succ, List.range']) | (with_reducible refine cond_t ?_ ?_; (focus (simp [*]; done))) | (with_reducible refine cond_f ?_ ?_; (focus (simp [*]; done))))
        simp [*]
      · simp [*, heldD, EqLow]
        repeat (first | (with_reducible first | refine seq_k fun K hK => ?_ | refine pwp_block ?_ | refine pwp_skip ?_ | refine pwp_ret ?_ | refine pwp_exit ?_ | refine then_n ?_ | refine then_r ?_ | refine then_e ?_ | refine then_g ?_ | refine inB_n ?_ | refine inB_r ?_ | refine inB_e ?_ | refine inB_o rfl ?_ | refine inB_g ?_ | refine Leads.go (by assumption) ?_) | (with_reducible refine region_k fun K hK => ?_; simp [*]) | (with_reducible refine region_drawT_k mixedO (by decide +kernel) fun K hK => ?_; simp [*]) | (with_reducible refine region_tame_a mixedO (by decide +kernel) fun K hK => ?_; simp [*, Low, isLoadB, isTameB, List.range_succ, List.range']) | (with_reducible refine cond_t ?_ ?_; (focus (simp [*]; done))) | (with_reducible refine cond_f ?_ ?_; (focus (simp [*]; done))))
        simp [*]
def orderM (s : Int) (a b : By) : Int × Bool := match holdM s a, holdM s b with
  | some x, some y => orderK s x y
  | _, _ => (0, false)
theorem hold_whole {s : Int} {l k : By} (h : holdM s l = some k) (hs : s = 3) : k.length ≤ 100000 := by
  obtain ⟨_, h1, _, h2⟩ := holdM_some h
  subst hs
  have := plainM_len l
  rw [← h2]
  show (plainM l).length ≤ 100000
  omega
set_option maxHeartbeats 4000000 in
set_option maxRecDepth 100000 in
theorem Order_spec (s : Int) (a b : By) (ha : a.length ≤ 100000) (hb : b.length ≤ 100000) (H : Heap) (hG : MaxIs H 0) : PCalls Try.prog 7 [.val (.int .i64 s), sD a, sD b] H fun d H' => d = ordD (orderM s a b) ∧ H' = H := by
  refine PCalls.liftM (fun m => ?_) (fun d hd => by
    simp only [List.mem_cons, List.mem_nil_iff, or_false] at hd
    rcases hd with rfl | rfl | rfl <;> exact .val _) (pure_ordD _) hG
  refine PCalls.of_pwp Try.call7 Try.func7 rfl (by simp [Try.ntmps7]) ?_
  rw [Try.ntmps7]
  have hA := hold_spec s a ha
  have hB := hold_spec s b hb
  have hwa := @hold_whole s a
  have hwb := @hold_whole s b
  have he : orderM s a b = (match holdM s a, holdM s b with
    | some x, some y => orderK s x y
    | _, _ => (0, false)) := rfl
  obtain ⟨x, hx⟩ : ∃ x, holdM s a = x := ⟨_, rfl⟩
  obtain ⟨y, hy⟩ : ∃ x, holdM s b = x := ⟨_, rfl⟩
  rw [hx] at hA he hwa
  rw [hy] at hB he hwb
  clear hx hy
  repeat (first | (with_reducible first | refine seq_k fun K hK => ?_ | refine pwp_block ?_ | refine pwp_skip ?_ | refine pwp_ret ?_ | refine pwp_exit ?_ | refine then_n ?_ | refine then_r ?_ | refine then_e ?_ | refine then_g ?_ | refine inB_n ?_ | refine inB_r ?_ | refine inB_e ?_ | refine inB_o rfl ?_ | refine inB_g ?_ | refine Leads.go (by assumption) ?_) | (with_reducible refine region_k fun K hK => ?_; simp [*]) | (with_reducible refine region_drawT_k mixedO (by decide +kernel) fun K hK => ?_; simp [*]) | (with_reducible refine region_tame_a mixedO (by decide +kernel) fun K hK => ?_; simp [*, Low, isLoadB, isTameB, List.range_succ, List.range']) | (with_reducible refine cond_t ?_ ?_; (focus (simp [*]; done))) | (with_reducible refine cond_f ?_ ?_; (focus (simp [*]; done))))
  refine PCalls.mono (hA _ (by exact maxG_is _ m rfl)) ?_
  intro d3 H3 hd3
  rw [hd3.1, hd3.2]
  clear hd3
  try simp [*]
  try simp [*]
  repeat (first | (with_reducible first | refine seq_k fun K hK => ?_ | refine pwp_block ?_ | refine pwp_skip ?_ | refine pwp_ret ?_ | refine pwp_exit ?_ | refine then_n ?_ | refine then_r ?_ | refine then_e ?_ | refine then_g ?_ | refine inB_n ?_ | refine inB_r ?_ | refine inB_e ?_ | refine inB_o rfl ?_ | refine inB_g ?_ | refine Leads.go (by assumption) ?_) | (with_reducible refine region_k fun K hK => ?_; simp [*]) | (with_reducible refine region_drawT_k mixedO (by decide +kernel) fun K hK => ?_; simp [*]) | (with_reducible refine region_tame_a mixedO (by decide +kernel) fun K hK => ?_; simp [*, Low, isLoadB, isTameB, List.range_succ, List.range']) | (with_reducible refine cond_t ?_ ?_; (focus (simp [*]; done))) | (with_reducible refine cond_f ?_ ?_; (focus (simp [*]; done))))
  refine PCalls.mono (hB _ (by exact maxG_is _ m rfl)) ?_
  intro d3 H3 hd3
  rw [hd3.1, hd3.2]
  clear hd3
  try simp [*]
  rcases x with _ | x
  · have he2 : orderM s a b = (0, false) := he
    clear he
    simp only [heldD]
    try simp [*]
    repeat (first | (with_reducible first | refine seq_k fun K hK => ?_ | refine pwp_block ?_ | refine pwp_skip ?_ | refine pwp_ret ?_ | refine pwp_exit ?_ | refine then_n ?_ | refine then_r ?_ | refine then_e ?_ | refine then_g ?_ | refine inB_n ?_ | refine inB_r ?_ | refine inB_e ?_ | refine inB_o rfl ?_ | refine inB_g ?_ | refine Leads.go (by assumption) ?_) | (with_reducible refine region_k fun K hK => ?_; simp [*]) | (with_reducible refine region_drawT_k mixedO (by decide +kernel) fun K hK => ?_; simp [*]) | (with_reducible refine region_tame_a mixedO (by decide +kernel) fun K hK => ?_; simp [*, Low, isLoadB, isTameB, List.range_succ, List.range']) | (with_reducible refine cond_t ?_ ?_; (focus (simp [*]; done))) | (with_reducible refine cond_f ?_ ?_; (focus (simp [*]; done))))
    simp [*]
  · rcases y with _ | y
    · have he2 : orderM s a b = (0, false) := he
      clear he
      simp only [heldD]
      try simp [*]
      repeat (first | (with_reducible first | refine seq_k fun K hK => ?_ | refine pwp_block ?_ | refine pwp_skip ?_ | refine pwp_ret ?_ | refine pwp_exit ?_ | refine then_n ?_ | refine then_r ?_ | refine then_e ?_ | refine then_g ?_ | refine inB_n ?_ | refine inB_r ?_ | refine inB_e ?_ | refine inB_o rfl ?_ | refine inB_g ?_ | refine Leads.go (by assumption) ?_) | (with_reducible refine region_k fun K hK => ?_; simp [*]) | (with_reducible refine region_drawT_k mixedO (by decide +kernel) fun K hK => ?_; simp [*]) | (with_reducible refine region_tame_a mixedO (by decide +kernel) fun K hK => ?_; simp [*, Low, isLoadB, isTameB, List.range_succ, List.range']) | (with_reducible refine cond_t ?_ ?_; (focus (simp [*]; done))) | (with_reducible refine cond_f ?_ ?_; (focus (simp [*]; done))))
      simp [*]
    · have he2 : orderM s a b = orderK s x y := he
      clear he
      have hO := orderK_spec s x y (fun hs => ⟨hwa rfl hs, hwb rfl hs⟩)
      obtain ⟨t, ht1, ht2⟩ := rule_ord s
      obtain ⟨f, hf⟩ : ∃ f, ruleO s = f := ⟨_, rfl⟩
      obtain ⟨⟨n, ok⟩, hno⟩ : ∃ k, orderK s x y = k := ⟨_, rfl⟩
      rw [hf] at ht2 hO
      rw [hno] at he2 hO
      simp only [heldD]
      try simp [*]
      repeat (first | (with_reducible first | refine seq_k fun K hK => ?_ | refine pwp_block ?_ | refine pwp_skip ?_ | refine pwp_ret ?_ | refine pwp_exit ?_ | refine then_n ?_ | refine then_r ?_ | refine then_e ?_ | refine then_g ?_ | refine inB_n ?_ | refine inB_r ?_ | refine inB_e ?_ | refine inB_o rfl ?_ | refine inB_g ?_ | refine Leads.go (by assumption) ?_) | (with_reducible refine region_k fun K hK => ?_; simp [*]) | (with_reducible refine region_drawT_k mixedO (by decide +kernel) fun K hK => ?_; simp [*]) | (with_reducible refine region_tame_a mixedO (by decide +kernel) fun K hK => ?_; simp [*, Low, isLoadB, isTameB, List.range_succ, List.range']) | (with_reducible refine cond_t ?_ ?_; (focus (simp [*]; done))) | (with_reducible refine cond_f ?_ ?_; (focus (simp [*]; done))))
      refine PCalls.mono (ruled_spec s _) ?_
      intro d3 H3 hd3
      rw [hd3.1, hd3.2]
      clear hd3
      try simp [*]
      try simp [*]
      repeat (first | (with_reducible first | refine seq_k fun K hK => ?_ | refine pwp_block ?_ | refine pwp_skip ?_ | refine pwp_ret ?_ | refine pwp_exit ?_ | refine then_n ?_ | refine then_r ?_ | refine then_e ?_ | refine then_g ?_ | refine inB_n ?_ | refine inB_r ?_ | refine inB_e ?_ | refine inB_o rfl ?_ | refine inB_g ?_ | refine Leads.go (by assumption) ?_) | (with_reducible refine region_k fun K hK => ?_; simp [*]) | (with_reducible refine region_drawT_k mixedO (by decide +kernel) fun K hK => ?_; simp [*]) | (with_reducible refine region_tame_a mixedO (by decide +kernel) fun K hK => ?_; simp [*, Low, isLoadB, isTameB, List.range_succ, List.range']) | (with_reducible refine cond_t ?_ ?_; (focus (simp [*]; done))) | (with_reducible refine cond_f ?_ ?_; (focus (simp [*]; done))))
      refine PCalls.mono (hO _) ?_
      intro d3 H3 hd3
      rw [hd3.1, hd3.2]
      clear hd3
      try simp [*]
      try simp [*]
      repeat (first | (with_reducible first | refine seq_k fun K hK => ?_ | refine pwp_block ?_ | refine pwp_skip ?_ | refine pwp_ret ?_ | refine pwp_exit ?_ | refine then_n ?_ | refine then_r ?_ | refine then_e ?_ | refine then_g ?_ | refine inB_n ?_ | refine inB_r ?_ | refine inB_e ?_ | refine inB_o rfl ?_ | refine inB_g ?_ | refine Leads.go (by assumption) ?_) | (with_reducible refine region_k fun K hK => ?_; simp [*]) | (with_reducible refine region_drawT_k mixedO (by decide +kernel) fun K hK => ?_; simp [*]) | (with_reducible refine region_tame_a mixedO (by decide +kernel) fun K hK => ?_; simp [*, Low, isLoadB, isTameB, List.range_succ, List.range']) | (with_reducible refine cond_t ?_ ?_; (focus (simp [*]; done))) | (with_reducible refine cond_f ?_ ?_; (focus (simp [*]; done))))
      simp [*]
end Go.Pv
