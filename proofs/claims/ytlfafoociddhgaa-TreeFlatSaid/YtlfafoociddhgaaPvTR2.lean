/- A part of the proof: functions of the program, walked, or what operations come to. -/
import Derived.Test.YtlfafoociddhgaaPvTR1
import Derived.Test.YtlfafoociddhgaaPvTameA
import Derived.Test.YtlfafoociddhgaaPvDrawT
namespace Go.Pv
open Go.Proofs
attribute [local simp] Try.underlying3 Try.underlying4 Try.underlying9 Try.underlying23 Try.underlying25 Try.underlying33 Try.underlying62 Heap.new_get Heap.put_get strD fillD
def cmpB (a b : ByteArray) : Int := Lib.compareBytes a.data.toList b.data.toList
theorem cmp60_spec (a b : ByteArray) (H : Heap) : PCalls Try.prog 60 [strD a, strD b] H fun d H' => d = .val (.int .i64 (cmpB a b)) ∧ H' = H :=
  prOf_sound (x := (60, .compare)) ⟨_, Try.func60, by kernel_rfl, by kernel_rfl, by kernel_rfl, by kernel_rfl⟩ rfl
@[simp] theorem res43 : Try.f43.results.toList = [.tmp 4] := rfl
@[simp] theorem res27 : Try.f27.results.toList = [.tmp 4] := rfl
set_option maxRecDepth 100000 in
theorem cmp43_spec (a b : ByteArray) (H : Heap) : PCalls Try.prog 43 [strD a, strD b] H fun d H' => d = .val (.int .i64 (cmpB a b)) ∧ H' = H := by
  refine PCalls.of_pwp Try.call43 Try.func43 rfl (by simp [Try.ntmps43]) ?_
  rw [Try.ntmps43]
  repeat (first | with_reducible refine seq_k fun K hK => ?_ | (with_reducible refine region_k fun K hK => ?_; simp [*]) | (with_reducible refine region_drawT_k mixedO (by decide +kernel) fun K hK => ?_; simp [*]) | (with_reducible refine region_tame_a mixedO (by decide +kernel) fun K hK => ?_; simp [*, Low, isLoadB, isTameB, List.range_succ, List.range']) | with_reducible refine pwp_block ?_ | with_reducible refine pwp_skip ?_ | with_reducible refine pwp_ret ?_ | with_reducible refine pwp_exit ?_ | (with_reducible refine cond_t ?_ ?_; (focus (simp [*]; done))) | (with_reducible refine cond_f ?_ ?_; (focus (simp [*]; done))) | with_reducible refine then_n ?_ | with_reducible refine then_r ?_ | with_reducible refine then_e ?_ | with_reducible refine then_g ?_ | with_reducible refine inB_n ?_ | with_reducible refine inB_r ?_ | with_reducible refine inB_e ?_ | with_reducible refine inB_o rfl ?_ | with_reducible refine inB_g ?_ | with_reducible refine Leads.go (by assumption) ?_)
  refine PCalls.mono (cmp60_spec a b _) ?_
  rintro _ _ ⟨rfl, rfl⟩
  try simp [*]
  repeat (first | with_reducible refine seq_k fun K hK => ?_ | (with_reducible refine region_k fun K hK => ?_; simp [*]) | (with_reducible refine region_drawT_k mixedO (by decide +kernel) fun K hK => ?_; simp [*]) | (with_reducible refine region_tame_a mixedO (by decide +kernel) fun K hK => ?_; simp [*, Low, isLoadB, isTameB, List.range_succ, List.range']) | with_reducible refine pwp_block ?_ | with_reducible refine pwp_skip ?_ | with_reducible refine pwp_ret ?_ | with_reducible refine pwp_exit ?_ | (with_reducible refine cond_t ?_ ?_; (focus (simp [*]; done))) | (with_reducible refine cond_f ?_ ?_; (focus (simp [*]; done))) | with_reducible refine then_n ?_ | with_reducible refine then_r ?_ | with_reducible refine then_e ?_ | with_reducible refine then_g ?_ | with_reducible refine inB_n ?_ | with_reducible refine inB_r ?_ | with_reducible refine inB_e ?_ | with_reducible refine inB_o rfl ?_ | with_reducible refine inB_g ?_ | with_reducible refine Leads.go (by assumption) ?_)
  simp [*]
set_option maxRecDepth 100000 in
theorem cmp_spec (a b : ByteArray) (H : Heap) : PCalls Try.prog 27 [strD a, strD b] H fun d H' => d = .val (.int .i64 (cmpB a b)) ∧ H' = H := by
  refine PCalls.of_pwp Try.call27 Try.func27 rfl (by simp [Try.ntmps27]) ?_
  rw [Try.ntmps27]
  repeat (first | with_reducible refine seq_k fun K hK => ?_ | (with_reducible refine region_k fun K hK => ?_; simp [*]) | (with_reducible refine region_drawT_k mixedO (by decide +kernel) fun K hK => ?_; simp [*]) | (with_reducible refine region_tame_a mixedO (by decide +kernel) fun K hK => ?_; simp [*, Low, isLoadB, isTameB, List.range_succ, List.range']) | with_reducible refine pwp_block ?_ | with_reducible refine pwp_skip ?_ | with_reducible refine pwp_ret ?_ | with_reducible refine pwp_exit ?_ | (with_reducible refine cond_t ?_ ?_; (focus (simp [*]; done))) | (with_reducible refine cond_f ?_ ?_; (focus (simp [*]; done))) | with_reducible refine then_n ?_ | with_reducible refine then_r ?_ | with_reducible refine then_e ?_ | with_reducible refine then_g ?_ | with_reducible refine inB_n ?_ | with_reducible refine inB_r ?_ | with_reducible refine inB_e ?_ | with_reducible refine inB_o rfl ?_ | with_reducible refine inB_g ?_ | with_reducible refine Leads.go (by assumption) ?_)
  refine PCalls.mono (cmp43_spec a b _) ?_
  rintro _ _ ⟨rfl, rfl⟩
  try simp [*]
  repeat (first | with_reducible refine seq_k fun K hK => ?_ | (with_reducible refine region_k fun K hK => ?_; simp [*]) | (with_reducible refine region_drawT_k mixedO (by decide +kernel) fun K hK => ?_; simp [*]) | (with_reducible refine region_tame_a mixedO (by decide +kernel) fun K hK => ?_; simp [*, Low, isLoadB, isTameB, List.range_succ, List.range']) | with_reducible refine pwp_block ?_ | with_reducible refine pwp_skip ?_ | with_reducible refine pwp_ret ?_ | with_reducible refine pwp_exit ?_ | (with_reducible refine cond_t ?_ ?_; (focus (simp [*]; done))) | (with_reducible refine cond_f ?_ ?_; (focus (simp [*]; done))) | with_reducible refine then_n ?_ | with_reducible refine then_r ?_ | with_reducible refine then_e ?_ | with_reducible refine then_g ?_ | with_reducible refine inB_n ?_ | with_reducible refine inB_r ?_ | with_reducible refine inB_e ?_ | with_reducible refine inB_o rfl ?_ | with_reducible refine inB_g ?_ | with_reducible refine Leads.go (by assumption) ?_)
  simp [*]
/-! ### height -/
@[simp] theorem res21 : Try.f21.results.toList = [.tmp 2] := rfl
def heightT : T → Int
  | .nil => 0
  | .node _ _ _ _ l r => IntKind.i64.wrap (1 + (if heightT l < heightT r then heightT r else heightT l))
set_option maxHeartbeats 4000000 in
set_option maxRecDepth 100000 in
theorem height_spec : ∀ (t : T) (H : Heap), PCalls Try.prog 21 [treeD t] H fun d H' => d = .val (.int .i64 (heightT t)) ∧ H' = H
  | .nil, H => by
    refine PCalls.of_pwp Try.call21 Try.func21 rfl (by simp [Try.ntmps21]) ?_
    rw [Try.ntmps21]
    simp only [treeD_nil]
    repeat (first | with_reducible refine seq_k fun K hK => ?_ | (with_reducible refine region_k fun K hK => ?_; simp [*]) | (with_reducible refine region_drawT_k mixedO (by decide +kernel) fun K hK => ?_; simp [*]) | (with_reducible refine region_tame_a mixedO (by decide +kernel) fun K hK => ?_; simp [*, Low, isLoadB, isTameB, List.range_succ, List.range']) | with_reducible refine pwp_block ?_ | with_reducible refine pwp_skip ?_ | with_reducible refine pwp_ret ?_ | with_reducible refine pwp_exit ?_ | (with_reducible refine cond_t ?_ ?_; (focus (simp [*]; done))) | (with_reducible refine cond_f ?_ ?_; (focus (simp [*]; done))) | with_reducible refine then_n ?_ | with_reducible refine then_r ?_ | with_reducible refine then_e ?_ | with_reducible refine then_g ?_ | with_reducible refine inB_n ?_ | with_reducible refine inB_r ?_ | with_reducible refine inB_e ?_ | with_reducible refine inB_o rfl ?_ | with_reducible refine inB_g ?_ | with_reducible refine Leads.go (by assumption) ?_)
    simp [*]
    rfl
  | .node p k lv sz l r, H => by
    have ih1 := height_spec l
    have ih2 := height_spec r
    refine PCalls.of_pwp Try.call21 Try.func21 rfl (by simp [Try.ntmps21]) ?_
    rw [Try.ntmps21]
    rw [heightT]
    simp only [treeD_node, strD]
    repeat (first | with_reducible refine seq_k fun K hK => ?_ | (with_reducible refine region_k fun K hK => ?_; simp [*]) | (with_reducible refine region_drawT_k mixedO (by decide +kernel) fun K hK => ?_; simp [*]) | (with_reducible refine region_tame_a mixedO (by decide +kernel) fun K hK => ?_; simp [*, Low, isLoadB, isTameB, List.range_succ, List.range']) | with_reducible refine pwp_block ?_ | with_reducible refine pwp_skip ?_ | with_reducible refine pwp_ret ?_ | with_reducible refine pwp_exit ?_ | (with_reducible refine cond_t ?_ ?_; (focus (simp [*]; done))) | (with_reducible refine cond_f ?_ ?_; (focus (simp [*]; done))) | with_reducible refine then_n ?_ | with_reducible refine then_r ?_ | with_reducible refine then_e ?_ | with_reducible refine then_g ?_ | with_reducible refine inB_n ?_ | with_reducible refine inB_r ?_ | with_reducible refine inB_e ?_ | with_reducible refine inB_o rfl ?_ | with_reducible refine inB_g ?_ | with_reducible refine Leads.go (by assumption) ?_)
    refine PCalls.mono (ih1 _) ?_
    intro d3 H3 hd3
    rw [hd3.1, hd3.2]
    clear hd3
    try simp [*]
    refine PCalls.mono (ih2 _) ?_
    intro d3 H3 hd3
    rw [hd3.1, hd3.2]
    clear hd3
    try simp [*]
    repeat (first | with_reducible refine seq_k fun K hK => ?_ | (with_reducible refine region_k fun K hK => ?_; simp [*]) | (with_reducible refine region_drawT_k mixedO (by decide +kernel) fun K hK => ?_; simp [*]) | (with_reducible refine region_tame_a mixedO (by decide +kernel) fun K hK => ?_; simp [*, Low, isLoadB, isTameB, List.range_succ, List.range']) | with_reducible refine pwp_block ?_ | with_reducible refine pwp_skip ?_ | with_reducible refine pwp_ret ?_ | with_reducible refine pwp_exit ?_ | (with_reducible refine cond_t ?_ ?_; (focus (simp [*]; done))) | (with_reducible refine cond_f ?_ ?_; (focus (simp [*]; done))) | with_reducible refine then_n ?_ | with_reducible refine then_r ?_ | with_reducible refine then_e ?_ | with_reducible refine then_g ?_ | with_reducible refine inB_n ?_ | with_reducible refine inB_r ?_ | with_reducible refine inB_e ?_ | with_reducible refine inB_o rfl ?_ | with_reducible refine inB_g ?_ | with_reducible refine Leads.go (by assumption) ?_)
    simp [*]
/-! ### first, last -/
@[simp] theorem res37 : Try.f37.results.toList = [.tmp 2] := rfl
@[simp] theorem res38 : Try.f38.results.toList = [.tmp 2] := rfl
def firstT : T → T
  | .nil => .nil
  | .node p k lv sz .nil r => .node p k lv sz .nil r
  | .node p k lv sz (.node p2 k2 lv2 sz2 l2 r2) r => firstT (.node p2 k2 lv2 sz2 l2 r2)
def lastT : T → T
  | .nil => .nil
  | .node p k lv sz l .nil => .node p k lv sz l .nil
  | .node p k lv sz l (.node p2 k2 lv2 sz2 l2 r2) => lastT (.node p2 k2 lv2 sz2 l2 r2)
set_option maxHeartbeats 4000000 in
set_option maxRecDepth 100000 in
theorem first_spec (t : T) (ht : t ≠ .nil) (H : Heap) : PCalls Try.prog 37 [treeD t] H fun d H' => d = treeD (firstT t) ∧ H' = H := by
  refine PCalls.of_pwp Try.call37 Try.func37 rfl (by simp [Try.ntmps37]) ?_
  rw [Try.ntmps37]
  repeat (first | with_reducible refine seq_k fun K hK => ?_ | (with_reducible refine region_k fun K hK => ?_; simp [*]) | (with_reducible refine region_drawT_k mixedO (by decide +kernel) fun K hK => ?_; simp [*]) | (with_reducible refine region_tame_a mixedO (by decide +kernel) fun K hK => ?_; simp [*, Low, isLoadB, isTameB, List.range_succ, List.range']) | with_reducible refine pwp_block ?_ | with_reducible refine pwp_skip ?_ | with_reducible refine pwp_ret ?_ | with_reducible refine pwp_exit ?_ | (with_reducible refine cond_t ?_ ?_; (focus (simp [*]; done))) | (with_reducible refine cond_f ?_ ?_; (focus (simp [*]; done))) | with_reducible refine then_n ?_ | with_reducible refine then_r ?_ | with_reducible refine then_e ?_ | with_reducible refine then_g ?_ | with_reducible refine inB_n ?_ | with_reducible refine inB_r ?_ | with_reducible refine inB_e ?_ | with_reducible refine inB_o rfl ?_ | with_reducible refine inB_g ?_ | with_reducible refine Leads.go (by assumption) ?_)
  refine pwp_loop (fun m st => ∃ u, u ≠ .nil ∧ u.dep = m ∧ firstT u = firstT t ∧ st.env.n = 13 ∧ st.df = [] ∧ st.H = H ∧ st.env.get 0 = treeD u) t.dep ⟨t, ht, rfl, rfl, by simp, rfl, rfl, by simp⟩ ?_
  rintro m ⟨E, H2, df⟩ ⟨u, hu, rfl, hf, en, edf, eH, e0⟩
  simp only at en edf eH e0
  subst edf; subst eH
  rcases u with _ | ⟨p, k, lv, sz, l, r⟩
  · exact absurd rfl hu
  · rcases l with _ | ⟨p2, k2, lv2, sz2, l2, r2⟩
    · have hF : firstT t = .node p k lv sz .nil r := by rw [← hf]; rfl
      have kF := Hold.mk hF
      clear hf hF ht hu
      simp only [treeD_node, treeD_nil, strD] at e0
      repeat (first | with_reducible refine seq_k fun K hK => ?_ | (with_reducible refine region_k fun K hK => ?_; simp [*]) | (with_reducible refine region_drawT_k mixedO (by decide +kernel) fun K hK => ?_; simp [*]) | (with_reducible refine region_tame_a mixedO (by decide +kernel) fun K hK => ?_; simp [*, Low, isLoadB, isTameB, List.range_succ, List.range']) | with_reducible refine pwp_block ?_ | with_reducible refine pwp_skip ?_ | with_reducible refine pwp_ret ?_ | with_reducible refine pwp_exit ?_ | (with_reducible refine cond_t ?_ ?_; (focus (simp [*]; done))) | (with_reducible refine cond_f ?_ ?_; (focus (simp [*]; done))) | with_reducible refine then_n ?_ | with_reducible refine then_r ?_ | with_reducible refine then_e ?_ | with_reducible refine then_g ?_ | with_reducible refine inB_n ?_ | with_reducible refine inB_r ?_ | with_reducible refine inB_e ?_ | with_reducible refine inB_o rfl ?_ | with_reducible refine inB_g ?_ | with_reducible refine Leads.go (by assumption) ?_)
      simp [*]
      rw [kF.out]
      rfl
    · have hF : firstT t = firstT (.node p2 k2 lv2 sz2 l2 r2) := by rw [← hf]; rfl
      have kF := Hold.mk hF
      clear hf hF ht hu
      simp only [treeD_node, strD] at e0
      repeat (first | with_reducible refine seq_k fun K hK => ?_ | (with_reducible refine region_k fun K hK => ?_; simp [*]) | (with_reducible refine region_drawT_k mixedO (by decide +kernel) fun K hK => ?_; simp [*]) | (with_reducible refine region_tame_a mixedO (by decide +kernel) fun K hK => ?_; simp [*, Low, isLoadB, isTameB, List.range_succ, List.range']) | with_reducible refine pwp_block ?_ | with_reducible refine pwp_skip ?_ | with_reducible refine pwp_ret ?_ | with_reducible refine pwp_exit ?_ | (with_reducible refine cond_t ?_ ?_; (focus (simp [*]; done))) | (with_reducible refine cond_f ?_ ?_; (focus (simp [*]; done))) | with_reducible refine then_n ?_ | with_reducible refine then_r ?_ | with_reducible refine then_e ?_ | with_reducible refine then_g ?_ | with_reducible refine inB_n ?_ | with_reducible refine inB_r ?_ | with_reducible refine inB_e ?_ | with_reducible refine inB_o rfl ?_ | with_reducible refine inB_g ?_ | with_reducible refine Leads.go (by assumption) ?_)
      refine ⟨(T.node p2 k2 lv2 sz2 l2 r2).dep, by simp only [T.dep]; omega, .node p2 k2 lv2 sz2 l2 r2, (by intro q; cases q), rfl, kF.out.symm, by simp [*], rfl, rfl, by simp [*]⟩
set_option maxHeartbeats 4000000 in
set_option maxRecDepth 100000 in
theorem last_spec (t : T) (ht : t ≠ .nil) (H : Heap) : PCalls Try.prog 38 [treeD t] H fun d H' => d = treeD (lastT t) ∧ H' = H := by
  refine PCalls.of_pwp Try.call38 Try.func38 rfl (by simp [Try.ntmps38]) ?_
  rw [Try.ntmps38]
  repeat (first | with_reducible refine seq_k fun K hK => ?_ | (with_reducible refine region_k fun K hK => ?_; simp [*]) | (with_reducible refine region_drawT_k mixedO (by decide +kernel) fun K hK => ?_; simp [*]) | (with_reducible refine region_tame_a mixedO (by decide +kernel) fun K hK => ?_; simp [*, Low, isLoadB, isTameB, List.range_succ, List.range']) | with_reducible refine pwp_block ?_ | with_reducible refine pwp_skip ?_ | with_reducible refine pwp_ret ?_ | with_reducible refine pwp_exit ?_ | (with_reducible refine cond_t ?_ ?_; (focus (simp [*]; done))) | (with_reducible refine cond_f ?_ ?_; (focus (simp [*]; done))) | with_reducible refine then_n ?_ | with_reducible refine then_r ?_ | with_reducible refine then_e ?_ | with_reducible refine then_g ?_ | with_reducible refine inB_n ?_ | with_reducible refine inB_r ?_ | with_reducible refine inB_e ?_ | with_reducible refine inB_o rfl ?_ | with_reducible refine inB_g ?_ | with_reducible refine Leads.go (by assumption) ?_)
  refine pwp_loop (fun m st => ∃ u, u ≠ .nil ∧ u.dep = m ∧ lastT u = lastT t ∧ st.env.n = 13 ∧ st.df = [] ∧ st.H = H ∧ st.env.get 0 = treeD u) t.dep ⟨t, ht, rfl, rfl, by simp, rfl, rfl, by simp⟩ ?_
  rintro m ⟨E, H2, df⟩ ⟨u, hu, rfl, hf, en, edf, eH, e0⟩
  simp only at en edf eH e0
  subst edf; subst eH
  rcases u with _ | ⟨p, k, lv, sz, l, r⟩
  · exact absurd rfl hu
  · rcases r with _ | ⟨p2, k2, lv2, sz2, l2, r2⟩
    · have hF : lastT t = .node p k lv sz l .nil := by rw [← hf]; rfl
      have kF := Hold.mk hF
      clear hf hF ht hu
      simp only [treeD_node, treeD_nil, strD] at e0
      repeat (first | with_reducible refine seq_k fun K hK => ?_ | (with_reducible refine region_k fun K hK => ?_; simp [*]) | (with_reducible refine region_drawT_k mixedO (by decide +kernel) fun K hK => ?_; simp [*]) | (with_reducible refine region_tame_a mixedO (by decide +kernel) fun K hK => ?_; simp [*, Low, isLoadB, isTameB, List.range_succ, List.range']) | with_reducible refine pwp_block ?_ | with_reducible refine pwp_skip ?_ | with_reducible refine pwp_ret ?_ | with_reducible refine pwp_exit ?_ | (with_reducible refine cond_t ?_ ?_; (focus (simp [*]; done))) | (with_reducible refine cond_f ?_ ?_; (focus (simp [*]; done))) | with_reducible refine then_n ?_ | with_reducible refine then_r ?_ | with_reducible refine then_e ?_ | with_reducible refine then_g ?_ | with_reducible refine inB_n ?_ | with_reducible refine inB_r ?_ | with_reducible refine inB_e ?_ | with_reducible refine inB_o rfl ?_ | with_reducible refine inB_g ?_ | with_reducible refine Leads.go (by assumption) ?_)
      simp [*]
      rw [kF.out]
      rfl
    · have hF : lastT t = lastT (.node p2 k2 lv2 sz2 l2 r2) := by rw [← hf]; rfl
      have kF := Hold.mk hF
      clear hf hF ht hu
      simp only [treeD_node, strD] at e0
      repeat (first | with_reducible refine seq_k fun K hK => ?_ | (with_reducible refine region_k fun K hK => ?_; simp [*]) | (with_reducible refine region_drawT_k mixedO (by decide +kernel) fun K hK => ?_; simp [*]) | (with_reducible refine region_tame_a mixedO (by decide +kernel) fun K hK => ?_; simp [*, Low, isLoadB, isTameB, List.range_succ, List.range']) | with_reducible refine pwp_block ?_ | with_reducible refine pwp_skip ?_ | with_reducible refine pwp_ret ?_ | with_reducible refine pwp_exit ?_ | (with_reducible refine cond_t ?_ ?_; (focus (simp [*]; done))) | (with_reducible refine cond_f ?_ ?_; (focus (simp [*]; done))) | with_reducible refine then_n ?_ | with_reducible refine then_r ?_ | with_reducible refine then_e ?_ | with_reducible refine then_g ?_ | with_reducible refine inB_n ?_ | with_reducible refine inB_r ?_ | with_reducible refine inB_e ?_ | with_reducible refine inB_o rfl ?_ | with_reducible refine inB_g ?_ | with_reducible refine Leads.go (by assumption) ?_)
      refine ⟨(T.node p2 k2 lv2 sz2 l2 r2).dep, by simp only [T.dep]; omega, .node p2 k2 lv2 sz2 l2 r2, (by intro q; cases q), rfl, kF.out.symm, by simp [*], rfl, rfl, by simp [*]⟩
end Go.Pv
