/- A part of the proof: functions of the program, walked, or what operations come to. -/
import Derived.Test.YtnmpinbfddjhmaaPvP7
import Derived.Test.YtnmpinbfddjhmaaPvF1
import Derived.Test.YtnmpinbfddjhmaaPvTameA
-- ZpvTameA ZpvDrawT
namespace Go.Pv
open Go.Proofs
attribute [-simp] eLen UInt8.ofNat_add



/-! ### Ends of texts; strings.Index; parts of texts that are sought -/
def trimP (l : By) : By := if preB l [32] then l.drop 1 else l
def sufB (l p : By) : Bool := decide (p.length ≤ l.length ∧ l.drop (l.length - p.length) = p)
def trimS (l : By) : By := if sufB l [32] then l.take (l.length - 1) else l
set_option maxHeartbeats 4000000 in
set_option maxRecDepth 100000 in
theorem slTrimPrefix_spec (l : By) (H : Heap) : PCalls Try.prog 17 [sD l, sD [32]] H fun d H' => d = sD (trimP l) ∧ H' = H := by
  refine PCalls.of_pwp Try.call17 Try.func17 rfl (by simp [Try.ntmps17]) ?_
  rw [Try.ntmps17]
  have hp := @preB_len l [32]
  repeat (first | (with_reducible first | refine seq_k fun K hK => ?_ | refine pwp_block ?_ | refine pwp_skip ?_ | refine pwp_ret ?_ | refine pwp_exit ?_ | refine then_n ?_ | refine then_r ?_ | refine then_e ?_ | refine then_g ?_ | refine inB_n ?_ | refine inB_r ?_ | refine inB_e ?_ | refine inB_o rfl ?_ | refine inB_g ?_ | refine Leads.go (by assumption) ?_) | (with_reducible refine region_k fun K hK => ?_; simp [*]) | (with_reducible refine region_drawT_k mixedO (by decide +kernel) fun K hK => ?_; simp [*]) | (with_reducible refine region_tame_a mixedO (by decide +kernel) fun K hK => ?_; simp [*, Low, isLoadB, isTameB, List.range_succ, List.range']) | (with_reducible refine cond_t ?_ ?_; (focus (simp [*]; done))) | (with_reducible refine cond_f ?_ ?_; (focus (simp [*]; done))))
  refine PCalls.mono (HasPrefix_spec l [32] _) ?_
  intro d3 H3 hd3
  rw [hd3.1, hd3.2]
  clear hd3
  try simp [*]
  cases hb : preB l [32] with
  | true =>
    have h1 := hp hb
    simp only [List.length_cons, List.length_nil] at h1
    have h2 : (1 : Int) ≤ (l.length : Int) := by omega
    try simp [*]
    repeat (first | (with_reducible first | refine seq_k fun K hK => ?_ | refine pwp_block ?_ | refine pwp_skip ?_ | refine pwp_ret ?_ | refine pwp_exit ?_ | refine then_n ?_ | refine then_r ?_ | refine then_e ?_ | refine then_g ?_ | refine inB_n ?_ | refine inB_r ?_ | refine inB_e ?_ | refine inB_o rfl ?_ | refine inB_g ?_ | refine Leads.go (by assumption) ?_) | (with_reducible refine region_k fun K hK => ?_; simp [*]) | (with_reducible refine region_drawT_k mixedO (by decide +kernel) fun K hK => ?_; simp [*]) | (with_reducible refine region_tame_a mixedO (by decide +kernel) fun K hK => ?_; simp [*, Low, isLoadB, isTameB, List.range_succ, List.range']) | (with_reducible refine cond_t ?_ ?_; (focus (simp [*]; done))) | (with_reducible refine cond_f ?_ ?_; (focus (simp [*]; done))))
    simp [*, trimP]
  | false =>
    try simp [*]
    repeat (first | (with_reducible first | refine seq_k fun K hK => ?_ | refine pwp_block ?_ | refine pwp_skip ?_ | refine pwp_ret ?_ | refine pwp_exit ?_ | refine then_n ?_ | refine then_r ?_ | refine then_e ?_ | refine then_g ?_ | refine inB_n ?_ | refine inB_r ?_ | refine inB_e ?_ | refine inB_o rfl ?_ | refine inB_g ?_ | refine Leads.go (by assumption) ?_) | (with_reducible refine region_k fun K hK => ?_; simp [*]) | (with_reducible refine region_drawT_k mixedO (by decide +kernel) fun K hK => ?_; simp [*]) | (with_reducible refine region_tame_a mixedO (by decide +kernel) fun K hK => ?_; simp [*, Low, isLoadB, isTameB, List.range_succ, List.range']) | (with_reducible refine cond_t ?_ ?_; (focus (simp [*]; done))) | (with_reducible refine cond_f ?_ ?_; (focus (simp [*]; done))))
    simp [*, trimP]
set_option maxHeartbeats 4000000 in
set_option maxRecDepth 100000 in
theorem TrimPrefix_spec (l : By) (H : Heap) : PCalls Try.prog 12 [sD l, sD [32]] H fun d H' => d = sD (trimP l) ∧ H' = H := by
  refine PCalls.of_pwp Try.call12 Try.func12 rfl (by simp [Try.ntmps12]) ?_
  rw [Try.ntmps12]
  repeat (first | (with_reducible first | refine seq_k fun K hK => ?_ | refine pwp_block ?_ | refine pwp_skip ?_ | refine pwp_ret ?_ | refine pwp_exit ?_ | refine then_n ?_ | refine then_r ?_ | refine then_e ?_ | refine then_g ?_ | refine inB_n ?_ | refine inB_r ?_ | refine inB_e ?_ | refine inB_o rfl ?_ | refine inB_g ?_ | refine Leads.go (by assumption) ?_) | (with_reducible refine region_k fun K hK => ?_; simp [*]) | (with_reducible refine region_drawT_k mixedO (by decide +kernel) fun K hK => ?_; simp [*]) | (with_reducible refine region_tame_a mixedO (by decide +kernel) fun K hK => ?_; simp [*, Low, isLoadB, isTameB, List.range_succ, List.range']) | (with_reducible refine cond_t ?_ ?_; (focus (simp [*]; done))) | (with_reducible refine cond_f ?_ ?_; (focus (simp [*]; done))))
  refine PCalls.mono (slTrimPrefix_spec l _) ?_
  intro d3 H3 hd3
  rw [hd3.1, hd3.2]
  clear hd3
  try simp [*]
  try simp [*]
  repeat (first | (with_reducible first | refine seq_k fun K hK => ?_ | refine pwp_block ?_ | refine pwp_skip ?_ | refine pwp_ret ?_ | refine pwp_exit ?_ | refine then_n ?_ | refine then_r ?_ | refine then_e ?_ | refine then_g ?_ | refine inB_n ?_ | refine inB_r ?_ | refine inB_e ?_ | refine inB_o rfl ?_ | refine inB_g ?_ | refine Leads.go (by assumption) ?_) | (with_reducible refine region_k fun K hK => ?_; simp [*]) | (with_reducible refine region_drawT_k mixedO (by decide +kernel) fun K hK => ?_; simp [*]) | (with_reducible refine region_tame_a mixedO (by decide +kernel) fun K hK => ?_; simp [*, Low, isLoadB, isTameB, List.range_succ, List.range']) | (with_reducible refine cond_t ?_ ?_; (focus (simp [*]; done))) | (with_reducible refine cond_f ?_ ?_; (focus (simp [*]; done))))
  simp [*]
set_option maxHeartbeats 4000000 in
set_option maxRecDepth 100000 in
theorem slHasSuffix_spec (l p : By) (hl : l.length ≤ 1000000000) (hp : p.length ≤ 1000000000) (H : Heap) : PCalls Try.prog 19 [sD l, sD p] H fun d H' => d = .val (.bool (sufB l p)) ∧ H' = H := by
  refine PCalls.of_pwp Try.call19 Try.func19 rfl (by simp [Try.ntmps19]) ?_
  rw [Try.ntmps19]
  have w := wrapI ((l.length : Int) - (p.length : Int)) (by omega) (by omega)
  by_cases h : (p.length : Int) ≤ (l.length : Int)
  · have h1 : 0 ≤ (l.length : Int) - (p.length : Int) := by omega
    have h2 : (l.length : Int) - (p.length : Int) ≤ (l.length : Int) := by omega
    have h3 : ((l.length : Int) - (p.length : Int)).toNat = l.length - p.length := by omega
    have hs : sufB l p = decide (l.drop (l.length - p.length) = p) := by
      unfold sufB
      have : p.length ≤ l.length := by omega
      simp [this]
    by_cases hq : l.drop (l.length - p.length) = p
    · rw [decide_eq_true hq] at hs
      repeat (first | (with_reducible first | refine seq_k fun K hK => ?_ | refine pwp_block ?_ | refine pwp_skip ?_ | refine pwp_ret ?_ | refine pwp_exit ?_ | refine then_n ?_ | refine then_r ?_ | refine then_e ?_ | refine then_g ?_ | refine inB_n ?_ | refine inB_r ?_ | refine inB_e ?_ | refine inB_o rfl ?_ | refine inB_g ?_ | refine Leads.go (by assumption) ?_) | (with_reducible refine region_k fun K hK => ?_; simp [*]) | (with_reducible refine region_drawT_k mixedO (by decide +kernel) fun K hK => ?_; simp [*]) | (with_reducible refine region_tame_a mixedO (by decide +kernel) fun K hK => ?_; simp [*, Low, isLoadB, isTameB, List.range_succ, List.range']) | (with_reducible refine cond_t ?_ ?_; (focus (simp [*]; done))) | (with_reducible refine cond_f ?_ ?_; (focus (simp [*]; done))))
      simp [*]
    · rw [decide_eq_false hq] at hs
      repeat (first | (with_reducible first | refine seq_k fun K hK => ?_ | refine pwp_block ?_ | refine pwp_skip ?_ | refine pwp_ret ?_ | refine pwp_exit ?_ | refine then_n ?_ | refine then_r ?_ | refine then_e ?_ | refine then_g ?_ | refine inB_n ?_ | refine inB_r ?_ | refine inB_e ?_ | refine inB_o rfl ?_ | refine inB_g ?_ | refine Leads.go (by assumption) ?_) | (with_reducible refine region_k fun K hK => ?_; simp [*]) | (with_reducible refine region_drawT_k mixedO (by decide +kernel) fun K hK => ?_; simp [*]) | (with_reducible refine region_tame_a mixedO (by decide +kernel) fun K hK => ?_; simp [*, Low, isLoadB, isTameB, List.range_succ, List.range']) | (with_reducible refine cond_t ?_ ?_; (focus (simp [*]; done))) | (with_reducible refine cond_f ?_ ?_; (focus (simp [*]; done))))
      simp [*]
  · have hs : sufB l p = false := by
      unfold sufB
      have : ¬ p.length ≤ l.length := by omega
      simp [this]
    repeat (first | (with_reducible first | refine seq_k fun K hK => ?_ | refine pwp_block ?_ | refine pwp_skip ?_ | refine pwp_ret ?_ | refine pwp_exit ?_ | refine then_n ?_ | refine then_r ?_ | refine then_e ?_ | refine then_g ?_ | refine inB_n ?_ | refine inB_r ?_ | refine inB_e ?_ | refine inB_o rfl ?_ | refine inB_g ?_ | refine Leads.go (by assumption) ?_) | (with_reducible refine region_k fun K hK => ?_; simp [*]) | (with_reducible refine region_drawT_k mixedO (by decide +kernel) fun K hK => ?_; simp [*]) | (with_reducible refine region_tame_a mixedO (by decide +kernel) fun K hK => ?_; simp [*, Low, isLoadB, isTameB, List.range_succ, List.range']) | (with_reducible refine cond_t ?_ ?_; (focus (simp [*]; done))) | (with_reducible refine cond_f ?_ ?_; (focus (simp [*]; done))))
    simp [*]
set_option maxHeartbeats 4000000 in
set_option maxRecDepth 100000 in
theorem HasSuffix_spec (l p : By) (hl : l.length ≤ 1000000000) (hp : p.length ≤ 1000000000) (H : Heap) : PCalls Try.prog 14 [sD l, sD p] H fun d H' => d = .val (.bool (sufB l p)) ∧ H' = H := by
  refine PCalls.of_pwp Try.call14 Try.func14 rfl (by simp [Try.ntmps14]) ?_
  rw [Try.ntmps14]
  repeat (first | (with_reducible first | refine seq_k fun K hK => ?_ | refine pwp_block ?_ | refine pwp_skip ?_ | refine pwp_ret ?_ | refine pwp_exit ?_ | refine then_n ?_ | refine then_r ?_ | refine then_e ?_ | refine then_g ?_ | refine inB_n ?_ | refine inB_r ?_ | refine inB_e ?_ | refine inB_o rfl ?_ | refine inB_g ?_ | refine Leads.go (by assumption) ?_) | (with_reducible refine region_k fun K hK => ?_; simp [*]) | (with_reducible refine region_drawT_k mixedO (by decide +kernel) fun K hK => ?_; simp [*]) | (with_reducible refine region_tame_a mixedO (by decide +kernel) fun K hK => ?_; simp [*, Low, isLoadB, isTameB, List.range_succ, List.range']) | (with_reducible refine cond_t ?_ ?_; (focus (simp [*]; done))) | (with_reducible refine cond_f ?_ ?_; (focus (simp [*]; done))))
  refine PCalls.mono (slHasSuffix_spec l p hl hp _) ?_
  intro d3 H3 hd3
  rw [hd3.1, hd3.2]
  clear hd3
  try simp [*]
  try simp [*]
  repeat (first | (with_reducible first | refine seq_k fun K hK => ?_ | refine pwp_block ?_ | refine pwp_skip ?_ | refine pwp_ret ?_ | refine pwp_exit ?_ | refine then_n ?_ | refine then_r ?_ | refine then_e ?_ | refine then_g ?_ | refine inB_n ?_ | refine inB_r ?_ | refine inB_e ?_ | refine inB_o rfl ?_ | refine inB_g ?_ | refine Leads.go (by assumption) ?_) | (with_reducible refine region_k fun K hK => ?_; simp [*]) | (with_reducible refine region_drawT_k mixedO (by decide +kernel) fun K hK => ?_; simp [*]) | (with_reducible refine region_tame_a mixedO (by decide +kernel) fun K hK => ?_; simp [*, Low, isLoadB, isTameB, List.range_succ, List.range']) | (with_reducible refine cond_t ?_ ?_; (focus (simp [*]; done))) | (with_reducible refine cond_f ?_ ?_; (focus (simp [*]; done))))
  simp [*]
theorem suf_len {l p : By} (h : sufB l p = true) : p.length ≤ l.length := (of_decide_eq_true h).1
set_option maxHeartbeats 4000000 in
set_option maxRecDepth 100000 in
theorem slTrimSuffix_spec (l : By) (hl : l.length ≤ 1000000000) (H : Heap) : PCalls Try.prog 20 [sD l, sD [32]] H fun d H' => d = sD (trimS l) ∧ H' = H := by
  refine PCalls.of_pwp Try.call20 Try.func20 rfl (by simp [Try.ntmps20]) ?_
  rw [Try.ntmps20]
  have hp := @suf_len l [32]
  have w := wrapI ((l.length : Int) - 1) (by omega) (by omega)
  repeat (first | (with_reducible first | refine seq_k fun K hK => ?_ | refine pwp_block ?_ | refine pwp_skip ?_ | refine pwp_ret ?_ | refine pwp_exit ?_ | refine then_n ?_ | refine then_r ?_ | refine then_e ?_ | refine then_g ?_ | refine inB_n ?_ | refine inB_r ?_ | refine inB_e ?_ | refine inB_o rfl ?_ | refine inB_g ?_ | refine Leads.go (by assumption) ?_) | (with_reducible refine region_k fun K hK => ?_; simp [*]) | (with_reducible refine region_drawT_k mixedO (by decide +kernel) fun K hK => ?_; simp [*]) | (with_reducible refine region_tame_a mixedO (by decide +kernel) fun K hK => ?_; simp [*, Low, isLoadB, isTameB, List.range_succ, List.range']) | (with_reducible refine cond_t ?_ ?_; (focus (simp [*]; done))) | (with_reducible refine cond_f ?_ ?_; (focus (simp [*]; done))))
  refine PCalls.mono (slHasSuffix_spec l [32] hl (by simp) _) ?_
  intro d3 H3 hd3
  rw [hd3.1, hd3.2]
  clear hd3
  try simp [*]
  cases hb : sufB l [32] with
  | true =>
    have h1 := hp hb
    simp only [List.length_cons, List.length_nil] at h1
    have h2 : (0 : Int) ≤ (l.length : Int) - 1 := by omega
    have h3 : (l.length : Int) - 1 ≤ (l.length : Int) := by omega
    have h4 : ((l.length : Int) - 1).toNat = l.length - 1 := by omega
    have h5 : (1 : Int) ≤ (l.length : Int) := by omega
    try simp [*]
    repeat (first | (with_reducible first | refine seq_k fun K hK => ?_ | refine pwp_block ?_ | refine pwp_skip ?_ | refine pwp_ret ?_ | refine pwp_exit ?_ | refine then_n ?_ | refine then_r ?_ | refine then_e ?_ | refine then_g ?_ | refine inB_n ?_ | refine inB_r ?_ | refine inB_e ?_ | refine inB_o rfl ?_ | refine inB_g ?_ | refine Leads.go (by assumption) ?_) | (with_reducible refine region_k fun K hK => ?_; simp [*]) | (with_reducible refine region_drawT_k mixedO (by decide +kernel) fun K hK => ?_; simp [*]) | (with_reducible refine region_tame_a mixedO (by decide +kernel) fun K hK => ?_; simp [*, Low, isLoadB, isTameB, List.range_succ, List.range']) | (with_reducible refine cond_t ?_ ?_; (focus (simp [*]; done))) | (with_reducible refine cond_f ?_ ?_; (focus (simp [*]; done))))
    simp [*, trimS]
  | false =>
    try simp [*]
    repeat (first | (with_reducible first | refine seq_k fun K hK => ?_ | refine pwp_block ?_ | refine pwp_skip ?_ | refine pwp_ret ?_ | refine pwp_exit ?_ | refine then_n ?_ | refine then_r ?_ | refine then_e ?_ | refine then_g ?_ | refine inB_n ?_ | refine inB_r ?_ | refine inB_e ?_ | refine inB_o rfl ?_ | refine inB_g ?_ | refine Leads.go (by assumption) ?_) | (with_reducible refine region_k fun K hK => ?_; simp [*]) | (with_reducible refine region_drawT_k mixedO (by decide +kernel) fun K hK => ?_; simp [*]) | (with_reducible refine region_tame_a mixedO (by decide +kernel) fun K hK => ?_; simp [*, Low, isLoadB, isTameB, List.range_succ, List.range']) | (with_reducible refine cond_t ?_ ?_; (focus (simp [*]; done))) | (with_reducible refine cond_f ?_ ?_; (focus (simp [*]; done))))
    simp [*, trimS]
set_option maxHeartbeats 4000000 in
set_option maxRecDepth 100000 in
theorem TrimSuffix_spec (l : By) (hl : l.length ≤ 1000000000) (H : Heap) : PCalls Try.prog 15 [sD l, sD [32]] H fun d H' => d = sD (trimS l) ∧ H' = H := by
  refine PCalls.of_pwp Try.call15 Try.func15 rfl (by simp [Try.ntmps15]) ?_
  rw [Try.ntmps15]
  repeat (first | (with_reducible first | refine seq_k fun K hK => ?_ | refine pwp_block ?_ | refine pwp_skip ?_ | refine pwp_ret ?_ | refine pwp_exit ?_ | refine then_n ?_ | refine then_r ?_ | refine then_e ?_ | refine then_g ?_ | refine inB_n ?_ | refine inB_r ?_ | refine inB_e ?_ | refine inB_o rfl ?_ | refine inB_g ?_ | refine Leads.go (by assumption) ?_) | (with_reducible refine region_k fun K hK => ?_; simp [*]) | (with_reducible refine region_drawT_k mixedO (by decide +kernel) fun K hK => ?_; simp [*]) | (with_reducible refine region_tame_a mixedO (by decide +kernel) fun K hK => ?_; simp [*, Low, isLoadB, isTameB, List.range_succ, List.range']) | (with_reducible refine cond_t ?_ ?_; (focus (simp [*]; done))) | (with_reducible refine cond_f ?_ ?_; (focus (simp [*]; done))))
  refine PCalls.mono (slTrimSuffix_spec l hl _) ?_
  intro d3 H3 hd3
  rw [hd3.1, hd3.2]
  clear hd3
  try simp [*]
  try simp [*]
  repeat (first | (with_reducible first | refine seq_k fun K hK => ?_ | refine pwp_block ?_ | refine pwp_skip ?_ | refine pwp_ret ?_ | refine pwp_exit ?_ | refine then_n ?_ | refine then_r ?_ | refine then_e ?_ | refine then_g ?_ | refine inB_n ?_ | refine inB_r ?_ | refine inB_e ?_ | refine inB_o rfl ?_ | refine inB_g ?_ | refine Leads.go (by assumption) ?_) | (with_reducible refine region_k fun K hK => ?_; simp [*]) | (with_reducible refine region_drawT_k mixedO (by decide +kernel) fun K hK => ?_; simp [*]) | (with_reducible refine region_tame_a mixedO (by decide +kernel) fun K hK => ?_; simp [*, Low, isLoadB, isTameB, List.range_succ, List.range']) | (with_reducible refine cond_t ?_ ?_; (focus (simp [*]; done))) | (with_reducible refine cond_f ?_ ?_; (focus (simp [*]; done))))
  simp [*]
set_option maxRecDepth 100000 in
theorem IndexL_spec (l p : By) (hl : l.length ≤ 1000000000) (H : Heap) (hG : MaxIs H 0) : PCalls Try.prog 13 [sD l, sD p] H fun d H' => d = .val (.int .i64 (Lib.index l p)) ∧ H' = H := by
  have h := PCalls.libW (P := Try.prog) (f := 13) (vs := [.string ⟨l.toArray⟩, .string ⟨p.toArray⟩]) (v := .int .i64 (Lib.index l p)) (fun args w => Try.call13 args w) hG fun m w hm => by
    have := Try.strings_Index ⟨l.toArray⟩ ⟨p.toArray⟩ m w (by show l.toArray.size < _; simp; omega) hm
    rw [show (⟨l.toArray⟩ : ByteArray).data.toList = l from by simp, show (⟨p.toArray⟩ : ByteArray).data.toList = p from by simp] at this
    exact this
  exact h
/-! ### The parts -/
attribute [local simp] recv optK
set_option maxHeartbeats 4000000 in
set_option maxRecDepth 100000 in
theorem fPiece_spec (l : By) (hl : l.length ≤ 100000) (H : Heap) : PCalls Try.prog 52 [sD l] H fun d H' => d = sD (prepM true true l) ∧ H' = H := by
  refine PCalls.of_pwp Try.call52 Try.func52 rfl (by simp [Try.ntmps52]) ?_
  rw [Try.ntmps52]
  repeat (first | (with_reducible first | refine seq_k fun K hK => ?_ | refine pwp_block ?_ | refine pwp_skip ?_ | refine pwp_ret ?_ | refine pwp_exit ?_ | refine then_n ?_ | refine then_r ?_ | refine then_e ?_ | refine then_g ?_ | refine inB_n ?_ | refine inB_r ?_ | refine inB_e ?_ | refine inB_o rfl ?_ | refine inB_g ?_ | refine Leads.go (by assumption) ?_) | (with_reducible refine region_k fun K hK => ?_; simp [*]) | (with_reducible refine region_drawT_k mixedO (by decide +kernel) fun K hK => ?_; simp [*]) | (with_reducible refine region_tame_a mixedO (by decide +kernel) fun K hK => ?_; simp [*, Low, isLoadB, isTameB, List.range_succ, List.range']) | (with_reducible refine cond_t ?_ ?_; (focus (simp [*]; done))) | (with_reducible refine cond_f ?_ ?_; (focus (simp [*]; done))))
  refine PCalls.mono (prepared_spec l true true hl _) ?_
  intro d3 H3 hd3
  rw [hd3.1, hd3.2]
  clear hd3
  try simp [*]
  repeat (first | (with_reducible first | refine seq_k fun K hK => ?_ | refine pwp_block ?_ | refine pwp_skip ?_ | refine pwp_ret ?_ | refine pwp_exit ?_ | refine then_n ?_ | refine then_r ?_ | refine then_e ?_ | refine then_g ?_ | refine inB_n ?_ | refine inB_r ?_ | refine inB_e ?_ | refine inB_o rfl ?_ | refine inB_g ?_ | refine Leads.go (by assumption) ?_) | (with_reducible refine region_k fun K hK => ?_; simp [*]) | (with_reducible refine region_drawT_k mixedO (by decide +kernel) fun K hK => ?_; simp [*]) | (with_reducible refine region_tame_a mixedO (by decide +kernel) fun K hK => ?_; simp [*, Low, isLoadB, isTameB, List.range_succ, List.range']) | (with_reducible refine cond_t ?_ ?_; (focus (simp [*]; done))) | (with_reducible refine cond_f ?_ ?_; (focus (simp [*]; done))))
  simp [*]
set_option maxHeartbeats 4000000 in
set_option maxRecDepth 100000 in
theorem wordsPiece_spec (l : By) (hl : l.length ≤ 100000) (H : Heap) : PCalls Try.prog 49 [recv, sD l] H fun d H' => d = optK (prepM true true l) true ∧ H' = H := by
  refine PCalls.liftG ?_ (pure_recv l) (pure_optK _ _) H
  refine PCalls.of_pwp Try.call49 Try.func49 rfl (by simp [Try.ntmps49]) ?_
  rw [Try.ntmps49]
  repeat (first | (with_reducible first | refine seq_k fun K hK => ?_ | refine pwp_block ?_ | refine pwp_skip ?_ | refine pwp_ret ?_ | refine pwp_exit ?_ | refine then_n ?_ | refine then_r ?_ | refine then_e ?_ | refine then_g ?_ | refine inB_n ?_ | refine inB_r ?_ | refine inB_e ?_ | refine inB_o rfl ?_ | refine inB_g ?_ | refine Leads.go (by assumption) ?_) | (with_reducible refine region_k fun K hK => ?_; simp [*]) | (with_reducible refine region_drawT_k mixedO (by decide +kernel) fun K hK => ?_; simp [*]) | (with_reducible refine region_tame_a mixedO (by decide +kernel) fun K hK => ?_; simp [*, Low, isLoadB, isTameB, List.range_succ, List.range']) | (with_reducible refine cond_t ?_ ?_; (focus (simp [*]; done))) | (with_reducible refine cond_f ?_ ?_; (focus (simp [*]; done))))
  refine PCalls.mono (fPiece_spec l hl _) ?_
  intro d3 H3 hd3
  rw [hd3.1, hd3.2]
  clear hd3
  try simp [*]
  try simp [*]
  repeat (first | (with_reducible first | refine seq_k fun K hK => ?_ | refine pwp_block ?_ | refine pwp_skip ?_ | refine pwp_ret ?_ | refine pwp_exit ?_ | refine then_n ?_ | refine then_r ?_ | refine then_e ?_ | refine then_g ?_ | refine inB_n ?_ | refine inB_r ?_ | refine inB_e ?_ | refine inB_o rfl ?_ | refine inB_g ?_ | refine Leads.go (by assumption) ?_) | (with_reducible refine region_k fun K hK => ?_; simp [*]) | (with_reducible refine region_drawT_k mixedO (by decide +kernel) fun K hK => ?_; simp [*]) | (with_reducible refine region_tame_a mixedO (by decide +kernel) fun K hK => ?_; simp [*, Low, isLoadB, isTameB, List.range_succ, List.range']) | (with_reducible refine cond_t ?_ ?_; (focus (simp [*]; done))) | (with_reducible refine cond_f ?_ ?_; (focus (simp [*]; done))))
  simp [*]
set_option maxHeartbeats 4000000 in
set_option maxRecDepth 100000 in
theorem exactPiece_spec (l : By) (hl : l.length ≤ 90000) (H : Heap) : PCalls Try.prog 65 [recv, sD l] H fun d H' => d = optK (exactP l) true ∧ H' = H := by
  refine PCalls.liftG ?_ (pure_recv l) (pure_optK _ _) H
  refine PCalls.of_pwp Try.call65 Try.func65 rfl (by simp [Try.ntmps65]) ?_
  rw [Try.ntmps65]
  have hd : exactP l = if (chars l).isSome = true then ((mark l).take ((mark l).length - 1)).drop 1 else l := rfl
  have hm : (120 :: (l ++ [120])).length ≤ 100000 := by simp; omega
  have hE := Exact_spec (120 :: (l ++ [120])) hm
  have hmb := mark_bound l hl
  have hm2 := @mark_len l
  have hmk : prepM false false (120 :: (l ++ [120])) = mark l := rfl
  rw [hmk] at hE
  have hb1 : 1 + l.length ≤ 9223372036854775807 := by omega
  have hb2 : 1 + l.length + 1 ≤ 9223372036854775807 := by omega
  have hb3 : l.length + 1 ≤ 9223372036854775807 := by omega
  have hb4 : l.length + 1 + 1 ≤ 9223372036854775807 := by omega
  repeat (first | (with_reducible first | refine seq_k fun K hK => ?_ | refine pwp_block ?_ | refine pwp_skip ?_ | refine pwp_ret ?_ | refine pwp_exit ?_ | refine then_n ?_ | refine then_r ?_ | refine then_e ?_ | refine then_g ?_ | refine inB_n ?_ | refine inB_r ?_ | refine inB_e ?_ | refine inB_o rfl ?_ | refine inB_g ?_ | refine Leads.go (by assumption) ?_) | (with_reducible refine region_k fun K hK => ?_; simp [*]) | (with_reducible refine region_drawT_k mixedO (by decide +kernel) fun K hK => ?_; simp [*]) | (with_reducible refine region_tame_a mixedO (by decide +kernel) fun K hK => ?_; simp [*, Low, isLoadB, isTameB, List.range_succ, List.range']) | (with_reducible refine cond_t ?_ ?_; (focus (simp [*]; done))) | (with_reducible refine cond_f ?_ ?_; (focus (simp [*]; done))))
  refine PCalls.mono (Right_spec l (by omega) _) ?_
  intro d3 H3 hd3
  rw [hd3.1, hd3.2]
  clear hd3
  try simp [*]
  cases hc : chars l with
  | none =>
    rw [hc] at hd
    have hd2 : exactP l = l := hd
    clear hd
    try simp [*]
    repeat (first | (with_reducible first | refine seq_k fun K hK => ?_ | refine pwp_block ?_ | refine pwp_skip ?_ | refine pwp_ret ?_ | refine pwp_exit ?_ | refine then_n ?_ | refine then_r ?_ | refine then_e ?_ | refine then_g ?_ | refine inB_n ?_ | refine inB_r ?_ | refine inB_e ?_ | refine inB_o rfl ?_ | refine inB_g ?_ | refine Leads.go (by assumption) ?_) | (with_reducible refine region_k fun K hK => ?_; simp [*]) | (with_reducible refine region_drawT_k mixedO (by decide +kernel) fun K hK => ?_; simp [*]) | (with_reducible refine region_tame_a mixedO (by decide +kernel) fun K hK => ?_; simp [*, Low, isLoadB, isTameB, List.range_succ, List.range']) | (with_reducible refine cond_t ?_ ?_; (focus (simp [*]; done))) | (with_reducible refine cond_f ?_ ?_; (focus (simp [*]; done))))
    simp [*]
  | some cs =>
    have h2 := hm2 hc
    rw [hc] at hd
    have hd2 : exactP l = ((mark l).take ((mark l).length - 1)).drop 1 := hd
    clear hd hm2
    obtain ⟨M, hM⟩ : ∃ M, mark l = M := ⟨_, rfl⟩
    rw [hM] at hE hmb h2 hd2
    clear hM hmk
    have w := wrapI ((M.length : Int) - 1) (by omega) (by omega)
    have g1 : (1 : Int) ≤ (M.length : Int) - 1 := by omega
    have g2 : (M.length : Int) - 1 ≤ (M.length : Int) := by omega
    have g3 : ((M.length : Int) - 1).toNat = M.length - 1 := by omega
    simp only [sD] at hE
    try simp [*]
    repeat (first | (with_reducible first | refine seq_k fun K hK => ?_ | refine pwp_block ?_ | refine pwp_skip ?_ | refine pwp_ret ?_ | refine pwp_exit ?_ | refine then_n ?_ | refine then_r ?_ | refine then_e ?_ | refine then_g ?_ | refine inB_n ?_ | refine inB_r ?_ | refine inB_e ?_ | refine inB_o rfl ?_ | refine inB_g ?_ | refine Leads.go (by assumption) ?_) | (with_reducible refine region_k fun K hK => ?_; simp [*]) | (with_reducible refine region_drawT_k mixedO (by decide +kernel) fun K hK => ?_; simp [*]) | (with_reducible refine region_tame_a mixedO (by decide +kernel) fun K hK => ?_; simp [*, Low, isLoadB, isTameB, List.range_succ, List.range']) | (with_reducible refine cond_t ?_ ?_; (focus (simp [*]; done))) | (with_reducible refine cond_f ?_ ?_; (focus (simp [*]; done))))
    refine PCalls.mono (hE _) ?_
    intro d3 H3 hd3
    rw [hd3.1, hd3.2]
    clear hd3
    try simp [*]
    try simp [*]
    repeat (first | (with_reducible first | refine seq_k fun K hK => ?_ | refine pwp_block ?_ | refine pwp_skip ?_ | refine pwp_ret ?_ | refine pwp_exit ?_ | refine then_n ?_ | refine then_r ?_ | refine then_e ?_ | refine then_g ?_ | refine inB_n ?_ | refine inB_r ?_ | refine inB_e ?_ | refine inB_o rfl ?_ | refine inB_g ?_ | refine Leads.go (by assumption) ?_) | (with_reducible refine region_k fun K hK => ?_; simp [*]) | (with_reducible refine region_drawT_k mixedO (by decide +kernel) fun K hK => ?_; simp [*]) | (with_reducible refine region_tame_a mixedO (by decide +kernel) fun K hK => ?_; simp [*, Low, isLoadB, isTameB, List.range_succ, List.range']) | (with_reducible refine cond_t ?_ ?_; (focus (simp [*]; done))) | (with_reducible refine cond_f ?_ ?_; (focus (simp [*]; done))))
    simp [*]
set_option maxHeartbeats 4000000 in
set_option maxRecDepth 100000 in
theorem digitsPiece_spec (l : By) (hl : l.length ≤ 100000) (H : Heap) (hG : MaxIs H 0) : PCalls Try.prog 91 [recv, sD l] H fun d H' => d = optK (delB 32 l) true ∧ H' = H := by
  refine PCalls.liftM (fun m => ?_) (pure_recv l) (pure_optK _ _) hG
  refine PCalls.of_pwp Try.call91 Try.func91 rfl (by simp [Try.ntmps91]) ?_
  rw [Try.ntmps91]
  repeat (first | (with_reducible first | refine seq_k fun K hK => ?_ | refine pwp_block ?_ | refine pwp_skip ?_ | refine pwp_ret ?_ | refine pwp_exit ?_ | refine then_n ?_ | refine then_r ?_ | refine then_e ?_ | refine then_g ?_ | refine inB_n ?_ | refine inB_r ?_ | refine inB_e ?_ | refine inB_o rfl ?_ | refine inB_g ?_ | refine Leads.go (by assumption) ?_) | (with_reducible refine region_k fun K hK => ?_; simp [*]) | (with_reducible refine region_drawT_k mixedO (by decide +kernel) fun K hK => ?_; simp [*]) | (with_reducible refine region_tame_a mixedO (by decide +kernel) fun K hK => ?_; simp [*, Low, isLoadB, isTameB, List.range_succ, List.range']) | (with_reducible refine cond_t ?_ ?_; (focus (simp [*]; done))) | (with_reducible refine cond_f ?_ ?_; (focus (simp [*]; done))))
  refine PCalls.mono (ReplaceDel_spec l 32 hl _ (maxG_is _ m rfl)) ?_
  intro d3 H3 hd3
  rw [hd3.1, hd3.2]
  clear hd3
  try simp [*]
  try simp [*]
  repeat (first | (with_reducible first | refine seq_k fun K hK => ?_ | refine pwp_block ?_ | refine pwp_skip ?_ | refine pwp_ret ?_ | refine pwp_exit ?_ | refine then_n ?_ | refine then_r ?_ | refine then_e ?_ | refine then_g ?_ | refine inB_n ?_ | refine inB_r ?_ | refine inB_e ?_ | refine inB_o rfl ?_ | refine inB_g ?_ | refine Leads.go (by assumption) ?_) | (with_reducible refine region_k fun K hK => ?_; simp [*]) | (with_reducible refine region_drawT_k mixedO (by decide +kernel) fun K hK => ?_; simp [*]) | (with_reducible refine region_tame_a mixedO (by decide +kernel) fun K hK => ?_; simp [*, Low, isLoadB, isTameB, List.range_succ, List.range']) | (with_reducible refine cond_t ?_ ?_; (focus (simp [*]; done))) | (with_reducible refine cond_f ?_ ?_; (focus (simp [*]; done))))
  simp [*]
set_option maxHeartbeats 4000000 in
set_option maxRecDepth 100000 in
theorem plainPiece_spec (l : By) (H : Heap) : PCalls Try.prog 44 [recv, sD l] H fun d H' => d = optK [] false ∧ H' = H := by
  refine PCalls.liftG ?_ (pure_recv l) (pure_optK _ _) H
  refine PCalls.of_pwp Try.call44 Try.func44 rfl (by simp [Try.ntmps44]) ?_
  rw [Try.ntmps44]
  repeat (first | (with_reducible first | refine seq_k fun K hK => ?_ | refine pwp_block ?_ | refine pwp_skip ?_ | refine pwp_ret ?_ | refine pwp_exit ?_ | refine then_n ?_ | refine then_r ?_ | refine then_e ?_ | refine then_g ?_ | refine inB_n ?_ | refine inB_r ?_ | refine inB_e ?_ | refine inB_o rfl ?_ | refine inB_g ?_ | refine Leads.go (by assumption) ?_) | (with_reducible refine region_k fun K hK => ?_; simp [*]) | (with_reducible refine region_drawT_k mixedO (by decide +kernel) fun K hK => ?_; simp [*]) | (with_reducible refine region_tame_a mixedO (by decide +kernel) fun K hK => ?_; simp [*, Low, isLoadB, isTameB, List.range_succ, List.range']) | (with_reducible refine cond_t ?_ ?_; (focus (simp [*]; done))) | (with_reducible refine cond_f ?_ ?_; (focus (simp [*]; done))))
  simp [*]
def ruleP (s : Int) : Nat := if s = 1 then 49 else if s = 2 then 65 else if s = 7 then 91 else 44
set_option maxRecDepth 100000 in
theorem piece_spec (s : Int) (l : By) (hl : l.length ≤ 90000) (H : Heap) (hG : MaxIs H 0) : PCalls Try.prog (ruleP s) [recv, sD l] H fun d H' => d = optK (pieceM s l).1 (pieceM s l).2 ∧ H' = H := by
  unfold ruleP pieceM
  split
  · exact wordsPiece_spec l (by omega) H
  split
  · exact exactPiece_spec l hl H
  split
  · exact digitsPiece_spec l (by omega) H hG
  · exact plainPiece_spec l H
theorem mp_words : eMethod Try.prog 51 (.agg []) "peerage/value.piece" = some (49, .agg []) := by kernel_rfl
theorem mp_exact : eMethod Try.prog 52 (.agg []) "peerage/value.piece" = some (65, .agg []) := by kernel_rfl
theorem mp_number : eMethod Try.prog 53 (.agg []) "peerage/value.piece" = some (44, .agg []) := by kernel_rfl
theorem mp_truth : eMethod Try.prog 54 (.agg []) "peerage/value.piece" = some (44, .agg []) := by kernel_rfl
theorem mp_octets : eMethod Try.prog 55 (.agg []) "peerage/value.piece" = some (44, .agg []) := by kernel_rfl
theorem mp_digits : eMethod Try.prog 56 (.agg []) "peerage/value.piece" = some (91, .agg []) := by kernel_rfl
theorem mp_point : eMethod Try.prog 57 (.agg []) "peerage/value.piece" = some (44, .agg []) := by kernel_rfl
theorem mp_object : eMethod Try.prog 58 (.agg []) "peerage/value.piece" = some (44, .agg []) := by kernel_rfl
theorem mp_plainNone : eMethod Try.prog 59 (.agg []) "peerage/value.piece" = some (44, .agg []) := by kernel_rfl
set_option maxRecDepth 100000 in
theorem rule_piece (s : Int) : ∃ t, ruleD s = .ifc t (.agg []) ∧ eMethod Try.prog t (.agg []) "peerage/value.piece" = some (ruleP s, .agg []) := by
  unfold ruleD ruleP
  by_cases h1 : s = 1
  · subst h1; exact ⟨_, rfl, mp_words⟩
  by_cases h2 : s = 2
  · subst h2; exact ⟨_, rfl, mp_exact⟩
  by_cases h3 : s = 3
  · subst h3; exact ⟨_, rfl, mp_number⟩
  by_cases h4 : s = 4
  · subst h4; exact ⟨_, rfl, mp_truth⟩
  by_cases h5 : s = 5
  · subst h5; exact ⟨_, rfl, mp_octets⟩
  by_cases h7 : s = 7
  · subst h7; exact ⟨_, rfl, mp_digits⟩
  by_cases h8 : s = 8
  · subst h8; exact ⟨_, rfl, mp_point⟩
  by_cases h9 : s = 9
  · subst h9; exact ⟨_, rfl, mp_object⟩
  rw [if_neg h1, if_neg h2, if_neg h3, if_neg h4, if_neg h5, if_neg h7, if_neg h8, if_neg h9, if_neg h1, if_neg h2, if_neg h7]
  exact ⟨_, rfl, mp_plainNone⟩
end Go.Pv
-- ZpvTameA ZpvDrawT
namespace Go.Pv
open Go.Proofs
attribute [-simp] eLen UInt8.ofNat_add



/-! ### What is sought -/
def seekM : By → List By → Option By
  | r, [] => some r
  | r, b :: bs => if Lib.index r b < 0 then none else seekM (r.drop ((Lib.index r b).toNat + b.length)) bs
def soughtM (s : Int) (v f la : By) (bs : List By) : Bool × Bool :=
  match holdM s v with
  | none => (false, false)
  | some k =>
    if (pieceM s f).2 = false then (false, false)
    else if preB k (trimP (pieceM s f).1) = false then (false, true)
    else match seekM (k.drop (trimP (pieceM s f).1).length) (bs.map fun b => (pieceM s b).1) with
      | none => (false, true)
      | some r => (sufB r (trimS (pieceM s la).1), true)
theorem chars_len : ∀ (n : Nat) (l : By) (cs : List (Nat × By)), l.length ≤ n → chars l = some cs → cs.length ≤ l.length := by
  intro n
  induction n with
  | zero => intro l cs hn h; have : l = [] := List.length_eq_zero_iff.1 (by omega); subst this; rw [chars_nil] at h; cases h; simp
  | succ n ih =>
    intro l cs hn h
    by_cases hl : l = []
    · subst hl; rw [chars_nil] at h; cases h; simp
    · rw [chars_cons hl] at h
      cases hq : nextM l with
      | none => rw [hq] at h; cases h
      | some q =>
        obtain ⟨v, m⟩ := q
        have hm := nextM_len hq
        rw [hq] at h
        simp only at h
        obtain ⟨ds, hds, rfl⟩ := Option.map_eq_some_iff.1 h
        have := ih (l.drop m) ds (by simp; omega) hds
        simp at this ⊢
        omega
theorem prepM_len (ends letters : Bool) (l : By) : (prepM ends letters l).length ≤ 5 * l.length + 1 := by
  unfold prepM
  cases hc : chars l with
  | none => simp; omega
  | some cs =>
    simp only
    have h1 : ∀ c ∈ cs, c.2.length ≤ 4 := chars_own _ _ _ hc
    have h2 := prepR_len ends letters cs h1
    have h3 := chars_len _ _ _ (Nat.le_refl _) hc
    unfold prepC
    rw [List.length_append]
    split <;> simp <;> omega
theorem piece_len (s : Int) (p : By) (hp : p.length ≤ 90000) : (pieceM s p).1.length ≤ 1000000 := by
  unfold pieceM
  split
  · have := prepM_len true true p; simp only; omega
  · split
    · simp only [exactP]
      split
      · have := mark_bound p hp
        simp; omega
      · omega
    · split
      · have := List.length_filter_le (fun x : UInt8 => x != 32) p; simp only; omega
      · simp
theorem hold_len {s : Int} {l k : By} (h : holdM s l = some k) : k.length ≤ 100000 := by
  obtain ⟨_, h1, _, h2⟩ := holdM_some h
  rw [← h2]
  unfold keyM
  split
  · have := prepM_len false true l; simp only; omega
  split
  · have := prepM_len false false l; simp only; omega
  split
  · have := plainM_len l; simp only; omega
  split
  · simp only; omega
  split
  · simp only; omega
  split
  · have := delB_len 32 l
    simp only [numericM]
    split
    · simp only [Option.getD_some]; omega
    · simp
  split
  · simp [pointM, textF]
  split
  · simp only [objectM]
    split
    · have := nm_small (fcls l); simp [lowL]; omega
    · simp [lowL]; omega
  · simp
attribute [local simp] recv optK
def partsE (f la : By) (g e : Nat) (bs : List By) : D := .agg [sD f, sD la, .slice g e (bs.map sD)]
def partsD (f la : By) (g : Nat) (bs : List By) : D := .agg [sD f, sD la, .slice g 9 (bs.map sD)]
def twoB (x : Bool × Bool) : D := .tup [.val (.bool x.1), .val (.bool x.2)]
def AtP (f la : By) (g e : Nat) (bs : List By) (H : Heap) : Prop := H.get 0 = some (.cells [sD f, sD la, .slice g e (bs.map sD)]) ∧ MaxIs H 0
set_option maxHeartbeats 8000000 in
set_option maxRecDepth 100000 in
theorem Sought_local (s : Int) (v f la : By) (g e : Nat) (bs : List By) (m : Int) (he : e = 9 ∨ bs = []) (hv : v.length ≤ 90000) (hf : f.length ≤ 90000) (hla : la.length ≤ 90000) (hbs : ∀ b ∈ bs, b.length ≤ 90000) (hbl : bs.length ≤ 100000) :
    PCalls Try.prog 5 [.val (.int .i64 s), sD v, partsE f la g e bs] (noHeap (maxG 0 m)) fun d _ => d = twoB (soughtM s v f la bs) := by
  refine PCalls.of_pwp Try.call5 Try.func5 rfl (by simp [Try.ntmps5]) ?_
  rw [Try.ntmps5]
  unfold partsE
  have hH := hold_spec s v (by omega)
  have hPf := piece_spec s f hf
  have hPl := piece_spec s la hla
  have hPb : ∀ b ∈ bs, ∀ H, MaxIs H 0 → PCalls Try.prog (ruleP s) [recv, sD b] H fun d H' => d = optK (pieceM s b).1 (pieceM s b).2 ∧ H' = H := fun b hb => piece_spec s b (hbs b hb)
  have hpl := piece_len s la hla
  have hdef : soughtM s v f la bs = (match holdM s v with
    | none => (false, false)
    | some k =>
      if (pieceM s f).2 = false then (false, false)
      else if preB k (trimP (pieceM s f).1) = false then (false, true)
      else match seekM (k.drop (trimP (pieceM s f).1).length) (bs.map fun b => (pieceM s b).1) with
        | none => (false, true)
        | some r => (sufB r (trimS (pieceM s la).1), true)) := rfl
  obtain ⟨t, ht1, ht2⟩ := rule_piece s
  obtain ⟨fn, hfn⟩ : ∃ f, ruleP s = f := ⟨_, rfl⟩
  rw [hfn] at ht2 hPf hPl hPb
  obtain ⟨⟨pf, okf⟩, hpf⟩ : ∃ k, pieceM s f = k := ⟨_, rfl⟩
  obtain ⟨⟨pl, okl⟩, hpl2⟩ : ∃ k, pieceM s la = k := ⟨_, rfl⟩
  rw [hpf] at hPf hdef
  rw [hpl2] at hPl hdef hpl
  have hkl := @hold_len s v
  obtain ⟨o, ho⟩ : ∃ o, holdM s v = o := ⟨_, rfl⟩
  rw [ho] at hH hdef hkl
  obtain ⟨ans, hans⟩ : ∃ a, soughtM s v f la bs = a := ⟨_, rfl⟩
  rw [hans] at hdef ⊢
  clear hans hpf hpl2 ho
  simp only at hdef hpl
  have hKb := Hold.mk hPb
  have hKd := Hold.mk hdef
  clear hPb hdef hbs
  repeat (first | (with_reducible first | refine seq_k fun K hK => ?_ | refine pwp_block ?_ | refine pwp_skip ?_ | refine pwp_ret ?_ | refine pwp_exit ?_ | refine then_n ?_ | refine then_r ?_ | refine then_e ?_ | refine then_g ?_ | refine inB_n ?_ | refine inB_r ?_ | refine inB_e ?_ | refine inB_o rfl ?_ | refine inB_g ?_ | refine Leads.go (by assumption) ?_) | (with_reducible refine region_k fun K hK => ?_; simp [*]) | (with_reducible refine region_drawT_k mixedO (by decide +kernel) fun K hK => ?_; simp [*]) | (with_reducible refine region_tame_a mixedO (by decide +kernel) fun K hK => ?_; simp [*, Low, isLoadB, isTameB, List.range_succ, List.range']) | (with_reducible refine cond_t ?_ ?_; (focus (simp [*]; done))) | (with_reducible refine cond_f ?_ ?_; (focus (simp [*]; done))))
  refine PCalls.mono (hH _ (by exact maxG_is _ m rfl)) ?_
  intro d3 H3 hd3
  rw [hd3.1, hd3.2]
  clear hd3
  try simp [*]
  rcases o with _ | k
  · have hA : ans = (false, false) := hKd.out
    clear hKd
    simp only [heldD]
    try simp [*]
    repeat (first | (with_reducible first | refine seq_k fun K hK => ?_ | refine pwp_block ?_ | refine pwp_skip ?_ | refine pwp_ret ?_ | refine pwp_exit ?_ | refine then_n ?_ | refine then_r ?_ | refine then_e ?_ | refine then_g ?_ | refine inB_n ?_ | refine inB_r ?_ | refine inB_e ?_ | refine inB_o rfl ?_ | refine inB_g ?_ | refine Leads.go (by assumption) ?_) | (with_reducible refine region_k fun K hK => ?_; simp [*]) | (with_reducible refine region_drawT_k mixedO (by decide +kernel) fun K hK => ?_; simp [*]) | (with_reducible refine region_tame_a mixedO (by decide +kernel) fun K hK => ?_; simp [*, Low, isLoadB, isTameB, List.range_succ, List.range']) | (with_reducible refine cond_t ?_ ?_; (focus (simp [*]; done))) | (with_reducible refine cond_f ?_ ?_; (focus (simp [*]; done))))
    refine PCalls.mono (ruled_spec s _) ?_
    intro d3 H3 hd3
    rw [hd3.1, hd3.2]
    clear hd3
    try simp [*]
    try simp [*]
    repeat (first | (with_reducible first | refine seq_k fun K hK => ?_ | refine pwp_block ?_ | refine pwp_skip ?_ | refine pwp_ret ?_ | refine pwp_exit ?_ | refine then_n ?_ | refine then_r ?_ | refine then_e ?_ | refine then_g ?_ | refine inB_n ?_ | refine inB_r ?_ | refine inB_e ?_ | refine inB_o rfl ?_ | refine inB_g ?_ | refine Leads.go (by assumption) ?_) | (with_reducible refine region_k fun K hK => ?_; simp [*]) | (with_reducible refine region_drawT_k mixedO (by decide +kernel) fun K hK => ?_; simp [*]) | (with_reducible refine region_tame_a mixedO (by decide +kernel) fun K hK => ?_; simp [*, Low, isLoadB, isTameB, List.range_succ, List.range']) | (with_reducible refine cond_t ?_ ?_; (focus (simp [*]; done))) | (with_reducible refine cond_f ?_ ?_; (focus (simp [*]; done))))
    refine PCalls.mono (hPf _ (by exact maxG_is _ m rfl)) ?_
    intro d3 H3 hd3
    rw [hd3.1, hd3.2]
    clear hd3
    try simp [*]
    try simp [*]
    repeat (first | (with_reducible first | refine seq_k fun K hK => ?_ | refine pwp_block ?_ | refine pwp_skip ?_ | refine pwp_ret ?_ | refine pwp_exit ?_ | refine then_n ?_ | refine then_r ?_ | refine then_e ?_ | refine then_g ?_ | refine inB_n ?_ | refine inB_r ?_ | refine inB_e ?_ | refine inB_o rfl ?_ | refine inB_g ?_ | refine Leads.go (by assumption) ?_) | (with_reducible refine region_k fun K hK => ?_; simp [*]) | (with_reducible refine region_drawT_k mixedO (by decide +kernel) fun K hK => ?_; simp [*]) | (with_reducible refine region_tame_a mixedO (by decide +kernel) fun K hK => ?_; simp [*, Low, isLoadB, isTameB, List.range_succ, List.range']) | (with_reducible refine cond_t ?_ ?_; (focus (simp [*]; done))) | (with_reducible refine cond_f ?_ ?_; (focus (simp [*]; done))))
    simp [*, twoB]
  · have hk := hkl rfl
    simp only [heldD]
    try simp [*]
    repeat (first | (with_reducible first | refine seq_k fun K hK => ?_ | refine pwp_block ?_ | refine pwp_skip ?_ | refine pwp_ret ?_ | refine pwp_exit ?_ | refine then_n ?_ | refine then_r ?_ | refine then_e ?_ | refine then_g ?_ | refine inB_n ?_ | refine inB_r ?_ | refine inB_e ?_ | refine inB_o rfl ?_ | refine inB_g ?_ | refine Leads.go (by assumption) ?_) | (with_reducible refine region_k fun K hK => ?_; simp [*]) | (with_reducible refine region_drawT_k mixedO (by decide +kernel) fun K hK => ?_; simp [*]) | (with_reducible refine region_tame_a mixedO (by decide +kernel) fun K hK => ?_; simp [*, Low, isLoadB, isTameB, List.range_succ, List.range']) | (with_reducible refine cond_t ?_ ?_; (focus (simp [*]; done))) | (with_reducible refine cond_f ?_ ?_; (focus (simp [*]; done))))
    refine PCalls.mono (ruled_spec s _) ?_
    intro d3 H3 hd3
    rw [hd3.1, hd3.2]
    clear hd3
    try simp [*]
    try simp [*]
    repeat (first | (with_reducible first | refine seq_k fun K hK => ?_ | refine pwp_block ?_ | refine pwp_skip ?_ | refine pwp_ret ?_ | refine pwp_exit ?_ | refine then_n ?_ | refine then_r ?_ | refine then_e ?_ | refine then_g ?_ | refine inB_n ?_ | refine inB_r ?_ | refine inB_e ?_ | refine inB_o rfl ?_ | refine inB_g ?_ | refine Leads.go (by assumption) ?_) | (with_reducible refine region_k fun K hK => ?_; simp [*]) | (with_reducible refine region_drawT_k mixedO (by decide +kernel) fun K hK => ?_; simp [*]) | (with_reducible refine region_tame_a mixedO (by decide +kernel) fun K hK => ?_; simp [*, Low, isLoadB, isTameB, List.range_succ, List.range']) | (with_reducible refine cond_t ?_ ?_; (focus (simp [*]; done))) | (with_reducible refine cond_f ?_ ?_; (focus (simp [*]; done))))
    refine PCalls.mono (hPf _ (by exact maxG_is _ m rfl)) ?_
    intro d3 H3 hd3
    rw [hd3.1, hd3.2]
    clear hd3
    try simp [*]
    cases okf with
    | false =>
      have hA : ans = (false, false) := hKd.out
      clear hKd
      try simp [*]
      repeat (first | (with_reducible first | refine seq_k fun K hK => ?_ | refine pwp_block ?_ | refine pwp_skip ?_ | refine pwp_ret ?_ | refine pwp_exit ?_ | refine then_n ?_ | refine then_r ?_ | refine then_e ?_ | refine then_g ?_ | refine inB_n ?_ | refine inB_r ?_ | refine inB_e ?_ | refine inB_o rfl ?_ | refine inB_g ?_ | refine Leads.go (by assumption) ?_) | (with_reducible refine region_k fun K hK => ?_; simp [*]) | (with_reducible refine region_drawT_k mixedO (by decide +kernel) fun K hK => ?_; simp [*]) | (with_reducible refine region_tame_a mixedO (by decide +kernel) fun K hK => ?_; simp [*, Low, isLoadB, isTameB, List.range_succ, List.range']) | (with_reducible refine cond_t ?_ ?_; (focus (simp [*]; done))) | (with_reducible refine cond_f ?_ ?_; (focus (simp [*]; done))))
      simp [*, twoB]
    | true =>
      have hd1 := hKd.out
      simp only [Bool.true_eq_false, if_false] at hd1
      have hKd2 := Hold.mk hd1
      clear hd1 hKd
      try simp [*]
      repeat (first | (with_reducible first | refine seq_k fun K hK => ?_ | refine pwp_block ?_ | refine pwp_skip ?_ | refine pwp_ret ?_ | refine pwp_exit ?_ | refine then_n ?_ | refine then_r ?_ | refine then_e ?_ | refine then_g ?_ | refine inB_n ?_ | refine inB_r ?_ | refine inB_e ?_ | refine inB_o rfl ?_ | refine inB_g ?_ | refine Leads.go (by assumption) ?_) | (with_reducible refine region_k fun K hK => ?_; simp [*]) | (with_reducible refine region_drawT_k mixedO (by decide +kernel) fun K hK => ?_; simp [*]) | (with_reducible refine region_tame_a mixedO (by decide +kernel) fun K hK => ?_; simp [*, Low, isLoadB, isTameB, List.range_succ, List.range']) | (with_reducible refine cond_t ?_ ?_; (focus (simp [*]; done))) | (with_reducible refine cond_f ?_ ?_; (focus (simp [*]; done))))
      refine PCalls.mono (TrimPrefix_spec pf _) ?_
      rintro d4 H4 ⟨rfl, rfl⟩
      try simp [*]
      refine PCalls.mono (CutPrefix_spec k (trimP pf) _) ?_
      rintro d5 H5 ⟨rfl, rfl⟩
      obtain ⟨q, hq⟩ : ∃ q, trimP pf = q := ⟨_, rfl⟩
      have hd2 := hKd2.out
      rw [hq] at hd2 ⊢
      have hbl2 : bs.length ≤ 140737488351232 := by omega
      have hml : (bs.map sD).length = bs.length := by simp
      cases hpb : preB k q with
      | false =>
        rw [hpb] at hd2
        have hA : ans = (false, true) := hd2
        clear hd2 hKd2
        try simp [*]
        repeat (first | (with_reducible first | refine seq_k fun K hK => ?_ | refine pwp_block ?_ | refine pwp_skip ?_ | refine pwp_ret ?_ | refine pwp_exit ?_ | refine then_n ?_ | refine then_r ?_ | refine then_e ?_ | refine then_g ?_ | refine inB_n ?_ | refine inB_r ?_ | refine inB_e ?_ | refine inB_o rfl ?_ | refine inB_g ?_ | refine Leads.go (by assumption) ?_) | (with_reducible refine region_k fun K hK => ?_; simp [*]) | (with_reducible refine region_drawT_k mixedO (by decide +kernel) fun K hK => ?_; simp [*]) | (with_reducible refine region_tame_a mixedO (by decide +kernel) fun K hK => ?_; simp [*, Low, isLoadB, isTameB, List.range_succ, List.range']) | (with_reducible refine cond_t ?_ ?_; (focus (simp [*]; done))) | (with_reducible refine cond_f ?_ ?_; (focus (simp [*]; done))))
        refine pwp_for (bs.length) (fun j st => st.env.n = 94 ∧ st.df = [] ∧ st.env.get 5 = .ptr 0 0 ∧ st.env.get 9 = .ifc t (.agg []) ∧ st.env.get 13 = sD k ∧ st.env.get 6 = .val (.bool false) ∧ st.env.get 52 = .slice g e (bs.map sD) ∧ st.env.get 53 = .val (.int .i64 (bs.length : Nat)) ∧ st.env.get 54 = .val (.int .i64 (j : Nat)) ∧ (AtP f la g e bs st.H)) ⟨by first | (simp; done) | (simp [*]; done), rfl, by first | (simp; done) | (simp [*]; done), by first | (simp; done) | (simp [*]; done), by first | (simp; done) | (simp [*]; done), by first | (simp; done) | (simp [*]; done), by first | (simp; done) | (simp [*]; done), by first | (simp; done) | (simp [*]; done), by first | (simp; done) | (simp [*]; done), ?_⟩ ?_ ?_
        · exact ⟨by simp, maxG_is _ m (by simp; rfl)⟩
        · rintro j ⟨E, Hx, df⟩ hj ⟨en, edf, e5, e9, e13, e6, e52, e53, e54, eP⟩
          simp only at en edf e5 e9 e13 e6 e52 e53 e54
          subst edf
          have hji : (j : Int) < ((bs.length : Nat) : Int) := by omega
          have hjw := wrapSucc j (by omega)
          obtain ⟨eH, eG⟩ := eP
          obtain ⟨b, hb⟩ : ∃ b, bs[j]? = some b := ⟨_, List.getElem?_eq_getElem hj⟩
          have hee : e = 9 := by
            rcases he with he | he
            · exact he
            · subst he; cases hb
          clear he
          subst hee
          have hpm : (bs.map sD)[j]? = some (sD b) := by rw [List.getElem?_map, hb]; rfl
          have hgl := get_of hpm
          have hP := hKb.out b (List.mem_of_getElem? hb)
          obtain ⟨⟨pb, okb⟩, hpb2⟩ : ∃ x, pieceM s b = x := ⟨_, rfl⟩
          rw [hpb2] at hP
          clear hb hpb2
          generalize hB : bs.map sD = B at *
          clear hB
          repeat (first | (with_reducible first | refine seq_k fun K hK => ?_ | refine pwp_block ?_ | refine pwp_skip ?_ | refine pwp_ret ?_ | refine pwp_exit ?_ | refine then_n ?_ | refine then_r ?_ | refine then_e ?_ | refine then_g ?_ | refine inB_n ?_ | refine inB_r ?_ | refine inB_e ?_ | refine inB_o rfl ?_ | refine inB_g ?_ | refine Leads.go (by assumption) ?_) | (with_reducible refine region_k fun K hK => ?_; simp [*]) | (with_reducible refine region_drawT_k mixedO (by decide +kernel) fun K hK => ?_; simp [*]) | (with_reducible refine region_tame_a mixedO (by decide +kernel) fun K hK => ?_; simp [*, Low, isLoadB, isTameB, List.range_succ, List.range']) | (with_reducible refine cond_t ?_ ?_; (focus (simp [*]; done))) | (with_reducible refine cond_f ?_ ?_; (focus (simp [*]; done))))
          refine PCalls.mono (hP _ eG) ?_
          intro d3 H3 hd3
          rw [hd3.1, hd3.2]
          clear hd3
          try simp [*]
          try simp [*]
          repeat (first | (with_reducible first | refine seq_k fun K hK => ?_ | refine pwp_block ?_ | refine pwp_skip ?_ | refine pwp_ret ?_ | refine pwp_exit ?_ | refine then_n ?_ | refine then_r ?_ | refine then_e ?_ | refine then_g ?_ | refine inB_n ?_ | refine inB_r ?_ | refine inB_e ?_ | refine inB_o rfl ?_ | refine inB_g ?_ | refine Leads.go (by assumption) ?_) | (with_reducible refine region_k fun K hK => ?_; simp [*]) | (with_reducible refine region_drawT_k mixedO (by decide +kernel) fun K hK => ?_; simp [*]) | (with_reducible refine region_tame_a mixedO (by decide +kernel) fun K hK => ?_; simp [*, Low, isLoadB, isTameB, List.range_succ, List.range']) | (with_reducible refine cond_t ?_ ?_; (focus (simp [*]; done))) | (with_reducible refine cond_f ?_ ?_; (focus (simp [*]; done))))
          refine PCalls.mono (IndexL_spec k pb (by omega) _ eG) ?_
          intro d3 H3 hd3
          rw [hd3.1, hd3.2]
          clear hd3
          try simp [*]
          try simp [*]
          repeat (first | (with_reducible first | refine seq_k fun K hK => ?_ | refine pwp_block ?_ | refine pwp_skip ?_ | refine pwp_ret ?_ | refine pwp_exit ?_ | refine then_n ?_ | refine then_r ?_ | refine then_e ?_ | refine then_g ?_ | refine inB_n ?_ | refine inB_r ?_ | refine inB_e ?_ | refine inB_o rfl ?_ | refine inB_g ?_ | refine Leads.go (by assumption) ?_) | (with_reducible refine region_k fun K hK => ?_; simp [*]) | (with_reducible refine region_drawT_k mixedO (by decide +kernel) fun K hK => ?_; simp [*]) | (with_reducible refine region_tame_a mixedO (by decide +kernel) fun K hK => ?_; simp [*, Low, isLoadB, isTameB, List.range_succ, List.range']) | (with_reducible refine cond_t ?_ ?_; (focus (simp [*]; done))) | (with_reducible refine cond_f ?_ ?_; (focus (simp [*]; done))))
          simp [*, twoB]
        · rintro ⟨E, Hx, df⟩ ⟨en, edf, e5, e9, e13, e6, e52, e53, e54, eP⟩
          simp only at en edf e5 e9 e13 e6 e52 e53 e54
          subst edf
          obtain ⟨eH, eG⟩ := eP
          repeat (first | (with_reducible first | refine seq_k fun K hK => ?_ | refine pwp_block ?_ | refine pwp_skip ?_ | refine pwp_ret ?_ | refine pwp_exit ?_ | refine then_n ?_ | refine then_r ?_ | refine then_e ?_ | refine then_g ?_ | refine inB_n ?_ | refine inB_r ?_ | refine inB_e ?_ | refine inB_o rfl ?_ | refine inB_g ?_ | refine Leads.go (by assumption) ?_) | (with_reducible refine region_k fun K hK => ?_; simp [*]) | (with_reducible refine region_drawT_k mixedO (by decide +kernel) fun K hK => ?_; simp [*]) | (with_reducible refine region_tame_a mixedO (by decide +kernel) fun K hK => ?_; simp [*, Low, isLoadB, isTameB, List.range_succ, List.range']) | (with_reducible refine cond_t ?_ ?_; (focus (simp [*]; done))) | (with_reducible refine cond_f ?_ ?_; (focus (simp [*]; done))))
          refine PCalls.mono (hPl _ eG) ?_
          intro d3 H3 hd3
          rw [hd3.1, hd3.2]
          clear hd3
          try simp [*]
          try simp [*]
          repeat (first | (with_reducible first | refine seq_k fun K hK => ?_ | refine pwp_block ?_ | refine pwp_skip ?_ | refine pwp_ret ?_ | refine pwp_exit ?_ | refine then_n ?_ | refine then_r ?_ | refine then_e ?_ | refine then_g ?_ | refine inB_n ?_ | refine inB_r ?_ | refine inB_e ?_ | refine inB_o rfl ?_ | refine inB_g ?_ | refine Leads.go (by assumption) ?_) | (with_reducible refine region_k fun K hK => ?_; simp [*]) | (with_reducible refine region_drawT_k mixedO (by decide +kernel) fun K hK => ?_; simp [*]) | (with_reducible refine region_tame_a mixedO (by decide +kernel) fun K hK => ?_; simp [*, Low, isLoadB, isTameB, List.range_succ, List.range']) | (with_reducible refine cond_t ?_ ?_; (focus (simp [*]; done))) | (with_reducible refine cond_f ?_ ?_; (focus (simp [*]; done))))
          simp [*, twoB]
      | true =>
        rw [hpb] at hd2
        simp only [Bool.true_eq_false, if_false] at hd2
        obtain ⟨r0, hr0⟩ : ∃ r, k.drop q.length = r := ⟨_, rfl⟩
        have hr0l : r0.length ≤ 100000 := by rw [← hr0]; simp; omega
        rw [hr0] at hd2 ⊢
        clear hKd2 hr0
        have hKd3 := Hold.mk hd2
        clear hd2
        have hps : ((bs.map fun b => (pieceM s b).1)).length = bs.length := by simp
        have hpn : ∀ j b, bs[j]? = some b → (bs.map fun b => (pieceM s b).1)[j]? = some (pieceM s b).1 := fun j b h => by rw [List.getElem?_map, h]; rfl
        obtain ⟨ps, hpse⟩ : ∃ ps, (bs.map fun b => (pieceM s b).1) = ps := ⟨_, rfl⟩
        rw [hpse] at hKd3 hps hpn
        have hKn := Hold.mk hpn
        clear hpn hpse
        simp only [if_true]
        try simp [*]
        repeat (first | (with_reducible first | refine seq_k fun K hK => ?_ | refine pwp_block ?_ | refine pwp_skip ?_ | refine pwp_ret ?_ | refine pwp_exit ?_ | refine then_n ?_ | refine then_r ?_ | refine then_e ?_ | refine then_g ?_ | refine inB_n ?_ | refine inB_r ?_ | refine inB_e ?_ | refine inB_o rfl ?_ | refine inB_g ?_ | refine Leads.go (by assumption) ?_) | (with_reducible refine region_k fun K hK => ?_; simp [*]) | (with_reducible refine region_drawT_k mixedO (by decide +kernel) fun K hK => ?_; simp [*]) | (with_reducible refine region_tame_a mixedO (by decide +kernel) fun K hK => ?_; simp [*, Low, isLoadB, isTameB, List.range_succ, List.range']) | (with_reducible refine cond_t ?_ ?_; (focus (simp [*]; done))) | (with_reducible refine cond_f ?_ ?_; (focus (simp [*]; done))))
        refine pwp_for (bs.length) (fun j st => st.env.n = 94 ∧ st.df = [] ∧ st.env.get 5 = .ptr 0 0 ∧ st.env.get 9 = .ifc t (.agg []) ∧ st.env.get 6 = .val (.bool true) ∧ st.env.get 52 = .slice g e (bs.map sD) ∧ st.env.get 53 = .val (.int .i64 (bs.length : Nat)) ∧ st.env.get 54 = .val (.int .i64 (j : Nat)) ∧ (AtP f la g e bs st.H ∧ ∃ r, st.env.get 13 = sD r ∧ r.length ≤ 100000 ∧ Hold (seekM r0 ps = seekM r (ps.drop j)))) ⟨by first | (simp; done) | (simp [*]; done), rfl, by first | (simp; done) | (simp [*]; done), by first | (simp; done) | (simp [*]; done), by first | (simp; done) | (simp [*]; done), by first | (simp; done) | (simp [*]; done), by first | (simp; done) | (simp [*]; done), by first | (simp; done) | (simp [*]; done), ?_⟩ ?_ ?_
        · exact ⟨⟨by simp, maxG_is _ m (by simp; rfl)⟩, r0, by simp, hr0l, ⟨rfl⟩⟩
        · rintro j ⟨E, Hx, df⟩ hj ⟨en, edf, e5, e9, e6, e52, e53, e54, eP⟩
          simp only at en edf e5 e9 e6 e52 e53 e54
          subst edf
          have hji : (j : Int) < ((bs.length : Nat) : Int) := by omega
          have hjw := wrapSucc j (by omega)
          obtain ⟨⟨eH, eG⟩, r, e13, hrl, hsk⟩ := eP
          simp only at e13 eH eG
          have kA : Hold (AtP f la g e bs Hx) := ⟨⟨eH, eG⟩⟩
          obtain ⟨b, hb⟩ : ∃ b, bs[j]? = some b := ⟨_, List.getElem?_eq_getElem hj⟩
          have hee : e = 9 := by
            rcases he with he | he
            · exact he
            · subst he; cases hb
          clear he
          subst hee
          have hpm : (bs.map sD)[j]? = some (sD b) := by rw [List.getElem?_map, hb]; rfl
          have hgl := get_of hpm
          have hP := hKb.out b (List.mem_of_getElem? hb)
          have hpj := hKn.out j b hb
          have hsk2 := hsk.out
          obtain ⟨⟨pb, okb⟩, hpb2⟩ : ∃ x, pieceM s b = x := ⟨_, rfl⟩
          rw [hpb2] at hP hpj
          have hjl : j < ps.length := by omega
          have hge : ps[j] = pb := by have h := hpj; rw [List.getElem?_eq_getElem hjl] at h; exact Option.some.inj h
          rw [List.drop_eq_getElem_cons hjl, hge] at hsk2
          have hstep : seekM r (pb :: ps.drop (j + 1)) = if Lib.index r pb < 0 then none else seekM (r.drop ((Lib.index r pb).toNat + pb.length)) (ps.drop (j + 1)) := rfl
          rw [hstep] at hsk2
          have hir := Lib.index_room r pb
          clear hb hpb2 hpj hge hstep hsk hps
          generalize hB : bs.map sD = B at *
          clear hB
          obtain ⟨i, hi⟩ : ∃ i, Lib.index r pb = i := ⟨_, rfl⟩
          rw [hi] at hsk2 hir
          have hI := IndexL_spec r pb (by omega)
          rw [hi] at hI
          clear hi
          by_cases hn : i < 0
          · rw [if_pos hn] at hsk2
            have hA : ans = (false, true) := by rw [hKd3.out, hsk2]
            clear hsk2
            repeat (first | (with_reducible first | refine seq_k fun K hK => ?_ | refine pwp_block ?_ | refine pwp_skip ?_ | refine pwp_ret ?_ | refine pwp_exit ?_ | refine then_n ?_ | refine then_r ?_ | refine then_e ?_ | refine then_g ?_ | refine inB_n ?_ | refine inB_r ?_ | refine inB_e ?_ | refine inB_o rfl ?_ | refine inB_g ?_ | refine Leads.go (by assumption) ?_) | (with_reducible refine region_k fun K hK => ?_; simp [*]) | (with_reducible refine region_drawT_k mixedO (by decide +kernel) fun K hK => ?_; simp [*]) | (with_reducible refine region_tame_a mixedO (by decide +kernel) fun K hK => ?_; simp [*, Low, isLoadB, isTameB, List.range_succ, List.range']) | (with_reducible refine cond_t ?_ ?_; (focus (simp [*]; done))) | (with_reducible refine cond_f ?_ ?_; (focus (simp [*]; done))))
            refine PCalls.mono (hP _ eG) ?_
            intro d3 H3 hd3
            rw [hd3.1, hd3.2]
            clear hd3
            try simp [*]
            try simp [*]
            repeat (first | (with_reducible first | refine seq_k fun K hK => ?_ | refine pwp_block ?_ | refine pwp_skip ?_ | refine pwp_ret ?_ | refine pwp_exit ?_ | refine then_n ?_ | refine then_r ?_ | refine then_e ?_ | refine then_g ?_ | refine inB_n ?_ | refine inB_r ?_ | refine inB_e ?_ | refine inB_o rfl ?_ | refine inB_g ?_ | refine Leads.go (by assumption) ?_) | (with_reducible refine region_k fun K hK => ?_; simp [*]) | (with_reducible refine region_drawT_k mixedO (by decide +kernel) fun K hK => ?_; simp [*]) | (with_reducible refine region_tame_a mixedO (by decide +kernel) fun K hK => ?_; simp [*, Low, isLoadB, isTameB, List.range_succ, List.range']) | (with_reducible refine cond_t ?_ ?_; (focus (simp [*]; done))) | (with_reducible refine cond_f ?_ ?_; (focus (simp [*]; done))))
            refine PCalls.mono (hI _ eG) ?_
            intro d3 H3 hd3
            rw [hd3.1, hd3.2]
            clear hd3
            try simp [*]
            try simp [*]
            repeat (first | (with_reducible first | refine seq_k fun K hK => ?_ | refine pwp_block ?_ | refine pwp_skip ?_ | refine pwp_ret ?_ | refine pwp_exit ?_ | refine then_n ?_ | refine then_r ?_ | refine then_e ?_ | refine then_g ?_ | refine inB_n ?_ | refine inB_r ?_ | refine inB_e ?_ | refine inB_o rfl ?_ | refine inB_g ?_ | refine Leads.go (by assumption) ?_) | (with_reducible refine region_k fun K hK => ?_; simp [*]) | (with_reducible refine region_drawT_k mixedO (by decide +kernel) fun K hK => ?_; simp [*]) | (with_reducible refine region_tame_a mixedO (by decide +kernel) fun K hK => ?_; simp [*, Low, isLoadB, isTameB, List.range_succ, List.range']) | (with_reducible refine cond_t ?_ ?_; (focus (simp [*]; done))) | (with_reducible refine cond_f ?_ ?_; (focus (simp [*]; done))))
            simp [*, twoB]
          · rw [if_neg hn] at hsk2
            have h0 := hir (by omega)
            have w := wrapI (i + (pb.length : Int)) (by omega) (by omega)
            have g1 : 0 ≤ i + (pb.length : Int) := by omega
            have g2 : i + (pb.length : Int) ≤ (r.length : Int) := h0
            have g3 : (i + (pb.length : Int)).toNat = i.toNat + pb.length := by omega
            have hsk3 : Hold (seekM r0 ps = seekM (r.drop (i.toNat + pb.length)) (ps.drop (j + 1))) := ⟨hsk2⟩
            clear hsk2
            repeat (first | (with_reducible first | refine seq_k fun K hK => ?_ | refine pwp_block ?_ | refine pwp_skip ?_ | refine pwp_ret ?_ | refine pwp_exit ?_ | refine then_n ?_ | refine then_r ?_ | refine then_e ?_ | refine then_g ?_ | refine inB_n ?_ | refine inB_r ?_ | refine inB_e ?_ | refine inB_o rfl ?_ | refine inB_g ?_ | refine Leads.go (by assumption) ?_) | (with_reducible refine region_k fun K hK => ?_; simp [*]) | (with_reducible refine region_drawT_k mixedO (by decide +kernel) fun K hK => ?_; simp [*]) | (with_reducible refine region_tame_a mixedO (by decide +kernel) fun K hK => ?_; simp [*, Low, isLoadB, isTameB, List.range_succ, List.range']) | (with_reducible refine cond_t ?_ ?_; (focus (simp [*]; done))) | (with_reducible refine cond_f ?_ ?_; (focus (simp [*]; done))))
            refine PCalls.mono (hP _ eG) ?_
            intro d3 H3 hd3
            rw [hd3.1, hd3.2]
            clear hd3
            try simp [*]
            try simp [*]
            repeat (first | (with_reducible first | refine seq_k fun K hK => ?_ | refine pwp_block ?_ | refine pwp_skip ?_ | refine pwp_ret ?_ | refine pwp_exit ?_ | refine then_n ?_ | refine then_r ?_ | refine then_e ?_ | refine then_g ?_ | refine inB_n ?_ | refine inB_r ?_ | refine inB_e ?_ | refine inB_o rfl ?_ | refine inB_g ?_ | refine Leads.go (by assumption) ?_) | (with_reducible refine region_k fun K hK => ?_; simp [*]) | (with_reducible refine region_drawT_k mixedO (by decide +kernel) fun K hK => ?_; simp [*]) | (with_reducible refine region_tame_a mixedO (by decide +kernel) fun K hK => ?_; simp [*, Low, isLoadB, isTameB, List.range_succ, List.range']) | (with_reducible refine cond_t ?_ ?_; (focus (simp [*]; done))) | (with_reducible refine cond_f ?_ ?_; (focus (simp [*]; done))))
            refine PCalls.mono (hI _ eG) ?_
            intro d3 H3 hd3
            rw [hd3.1, hd3.2]
            clear hd3
            try simp [*]
            try simp [*]
            repeat (first | (with_reducible first | refine seq_k fun K hK => ?_ | refine pwp_block ?_ | refine pwp_skip ?_ | refine pwp_ret ?_ | refine pwp_exit ?_ | refine then_n ?_ | refine then_r ?_ | refine then_e ?_ | refine then_g ?_ | refine inB_n ?_ | refine inB_r ?_ | refine inB_e ?_ | refine inB_o rfl ?_ | refine inB_g ?_ | refine Leads.go (by assumption) ?_) | (with_reducible refine region_k fun K hK => ?_; simp [*]) | (with_reducible refine region_drawT_k mixedO (by decide +kernel) fun K hK => ?_; simp [*]) | (with_reducible refine region_tame_a mixedO (by decide +kernel) fun K hK => ?_; simp [*, Low, isLoadB, isTameB, List.range_succ, List.range']) | (with_reducible refine cond_t ?_ ?_; (focus (simp [*]; done))) | (with_reducible refine cond_f ?_ ?_; (focus (simp [*]; done))))
            simp [*]
            exact ⟨kA.out, by omega⟩
        · rintro ⟨E, Hx, df⟩ ⟨en, edf, e5, e9, e6, e52, e53, e54, eP⟩
          simp only at en edf e5 e9 e6 e52 e53 e54
          subst edf
          obtain ⟨⟨eH, eG⟩, r, e13, hrl, hsk⟩ := eP
          simp only at e13 eH eG
          have hsk2 := hsk.out
          rw [List.drop_of_length_le (by omega)] at hsk2
          have hA : ans = (sufB r (trimS pl), true) := by rw [hKd3.out, hsk2]; rfl
          have htl0 : (trimS pl).length ≤ pl.length := by unfold trimS; split <;> simp
          have htl : (trimS pl).length ≤ 1000000000 := by omega
          clear htl0
          clear hsk hsk2
          repeat (first | (with_reducible first | refine seq_k fun K hK => ?_ | refine pwp_block ?_ | refine pwp_skip ?_ | refine pwp_ret ?_ | refine pwp_exit ?_ | refine then_n ?_ | refine then_r ?_ | refine then_e ?_ | refine then_g ?_ | refine inB_n ?_ | refine inB_r ?_ | refine inB_e ?_ | refine inB_o rfl ?_ | refine inB_g ?_ | refine Leads.go (by assumption) ?_) | (with_reducible refine region_k fun K hK => ?_; simp [*]) | (with_reducible refine region_drawT_k mixedO (by decide +kernel) fun K hK => ?_; simp [*]) | (with_reducible refine region_tame_a mixedO (by decide +kernel) fun K hK => ?_; simp [*, Low, isLoadB, isTameB, List.range_succ, List.range']) | (with_reducible refine cond_t ?_ ?_; (focus (simp [*]; done))) | (with_reducible refine cond_f ?_ ?_; (focus (simp [*]; done))))
          refine PCalls.mono (hPl _ eG) ?_
          intro d3 H3 hd3
          rw [hd3.1, hd3.2]
          clear hd3
          try simp [*]
          try simp [*]
          repeat (first | (with_reducible first | refine seq_k fun K hK => ?_ | refine pwp_block ?_ | refine pwp_skip ?_ | refine pwp_ret ?_ | refine pwp_exit ?_ | refine then_n ?_ | refine then_r ?_ | refine then_e ?_ | refine then_g ?_ | refine inB_n ?_ | refine inB_r ?_ | refine inB_e ?_ | refine inB_o rfl ?_ | refine inB_g ?_ | refine Leads.go (by assumption) ?_) | (with_reducible refine region_k fun K hK => ?_; simp [*]) | (with_reducible refine region_drawT_k mixedO (by decide +kernel) fun K hK => ?_; simp [*]) | (with_reducible refine region_tame_a mixedO (by decide +kernel) fun K hK => ?_; simp [*, Low, isLoadB, isTameB, List.range_succ, List.range']) | (with_reducible refine cond_t ?_ ?_; (focus (simp [*]; done))) | (with_reducible refine cond_f ?_ ?_; (focus (simp [*]; done))))
          refine PCalls.mono (TrimSuffix_spec pl (by omega) _) ?_
          intro d3 H3 hd3
          rw [hd3.1, hd3.2]
          clear hd3
          try simp [*]
          try simp [*]
          repeat (first | (with_reducible first | refine seq_k fun K hK => ?_ | refine pwp_block ?_ | refine pwp_skip ?_ | refine pwp_ret ?_ | refine pwp_exit ?_ | refine then_n ?_ | refine then_r ?_ | refine then_e ?_ | refine then_g ?_ | refine inB_n ?_ | refine inB_r ?_ | refine inB_e ?_ | refine inB_o rfl ?_ | refine inB_g ?_ | refine Leads.go (by assumption) ?_) | (with_reducible refine region_k fun K hK => ?_; simp [*]) | (with_reducible refine region_drawT_k mixedO (by decide +kernel) fun K hK => ?_; simp [*]) | (with_reducible refine region_tame_a mixedO (by decide +kernel) fun K hK => ?_; simp [*, Low, isLoadB, isTameB, List.range_succ, List.range']) | (with_reducible refine cond_t ?_ ?_; (focus (simp [*]; done))) | (with_reducible refine cond_f ?_ ?_; (focus (simp [*]; done))))
          refine PCalls.mono (HasSuffix_spec r (trimS pl) (by omega) htl _) ?_
          intro d3 H3 hd3
          rw [hd3.1, hd3.2]
          clear hd3
          try simp [*]
          try simp [*]
          repeat (first | (with_reducible first | refine seq_k fun K hK => ?_ | refine pwp_block ?_ | refine pwp_skip ?_ | refine pwp_ret ?_ | refine pwp_exit ?_ | refine then_n ?_ | refine then_r ?_ | refine then_e ?_ | refine then_g ?_ | refine inB_n ?_ | refine inB_r ?_ | refine inB_e ?_ | refine inB_o rfl ?_ | refine inB_g ?_ | refine Leads.go (by assumption) ?_) | (with_reducible refine region_k fun K hK => ?_; simp [*]) | (with_reducible refine region_drawT_k mixedO (by decide +kernel) fun K hK => ?_; simp [*]) | (with_reducible refine region_tame_a mixedO (by decide +kernel) fun K hK => ?_; simp [*, Low, isLoadB, isTameB, List.range_succ, List.range']) | (with_reducible refine cond_t ?_ ?_; (focus (simp [*]; done))) | (with_reducible refine cond_f ?_ ?_; (focus (simp [*]; done))))
          simp [*, twoB]
theorem pure_partsE (f la : By) (g e : Nat) (bs : List By) : Pure (partsE f la g e bs) := .agg _ fun d hd => by
  simp only [List.mem_cons, List.mem_nil_iff, or_false] at hd
  rcases hd with rfl | rfl | rfl
  · exact .val _
  · exact .val _
  · exact pure_strs _ _ _
theorem pure_parts (f la : By) (g : Nat) (bs : List By) : Pure (partsD f la g bs) := pure_partsE f la g 9 bs
set_option maxRecDepth 100000 in
theorem SoughtE_spec (s : Int) (v f la : By) (g e : Nat) (bs : List By) (he : e = 9 ∨ bs = []) (hv : v.length ≤ 90000) (hf : f.length ≤ 90000) (hla : la.length ≤ 90000) (hbs : ∀ b ∈ bs, b.length ≤ 90000) (hbl : bs.length ≤ 100000) (H : Heap) (hG : MaxIs H 0) :
    PCalls Try.prog 5 [.val (.int .i64 s), sD v, partsE f la g e bs] H fun d H' => d = twoB (soughtM s v f la bs) ∧ H' = H :=
  PCalls.liftM (fun m => Sought_local s v f la g e bs m he hv hf hla hbs hbl) (fun d hd => by
    simp only [List.mem_cons, List.mem_nil_iff, or_false] at hd
    rcases hd with rfl | rfl | rfl
    · exact .val _
    · exact .val _
    · exact pure_partsE _ _ _ _ _) (.tup _ fun d hd => by
    simp only [List.mem_cons, List.mem_nil_iff, or_false] at hd
    rcases hd with rfl | rfl <;> exact .val _) hG
set_option maxRecDepth 100000 in
theorem Sought_spec (s : Int) (v f la : By) (g : Nat) (bs : List By) (hv : v.length ≤ 90000) (hf : f.length ≤ 90000) (hla : la.length ≤ 90000) (hbs : ∀ b ∈ bs, b.length ≤ 90000) (hbl : bs.length ≤ 100000) (H : Heap) (hG : MaxIs H 0) :
    PCalls Try.prog 5 [.val (.int .i64 s), sD v, partsD f la g bs] H fun d H' => d = twoB (soughtM s v f la bs) ∧ H' = H :=
  SoughtE_spec s v f la g 9 bs (.inl rfl) hv hf hla hbs hbl H hG
end Go.Pv
