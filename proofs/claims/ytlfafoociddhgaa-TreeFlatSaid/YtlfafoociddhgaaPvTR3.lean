/- A part of the proof: functions of the program, walked, or what operations come to. -/
import Derived.Test.YtlfafoociddhgaaPvTR2
import Derived.Test.YtlfafoociddhgaaPvTameA
import Derived.Test.YtlfafoociddhgaaPvDrawT
namespace Go.Pv
open Go.Proofs
attribute [local simp] Try.underlying3 Try.underlying4 Try.underlying9 Try.underlying23 Try.underlying25 Try.underlying33 Try.underlying62 Heap.new_get Heap.put_get strD fillD entC
def nodeC (p k : ByteArray) (lv sz : Int) (l r : T) : List D := [.val (.string p), .val (.string k), .val (.string ⟨#[]⟩), .val (.int .i64 0), .slice 1 0 [], .val (.int .i64 lv), .val (.int .i64 sz), treeD l, treeD r]
set_option maxHeartbeats 4000000 in
set_option maxRecDepth 100000 in
theorem made_own (p k : ByteArray) (lv0 sz0 : Int) (l0 r0 : T) (lv : Int) (l r : T) (H : Heap) : PCalls Try.prog 32 [treeD (.node p k lv0 sz0 l0 r0), .val (.int .i64 lv), treeD l, treeD r] H fun d H' => d = .ptr H.nx 0 ∧ H' = H.new (.cells (nodeC p k lv (IntKind.i64.wrap (IntKind.i64.wrap (l.sz + 1) + r.sz)) l r)) := by
  refine PCalls.of_pwp Try.call32 Try.func32 rfl (by simp [Try.ntmps32]) ?_
  rw [Try.ntmps32]
  simp only [treeD_node, nodeC, strD]
  repeat (first | with_reducible refine seq_k fun K hK => ?_ | (with_reducible refine region_k fun K hK => ?_; simp [*]) | (with_reducible refine region_drawT_k mixedO (by decide +kernel) fun K hK => ?_; simp [*]) | (with_reducible refine region_tame_a mixedO (by decide +kernel) fun K hK => ?_; simp [*, Low, isLoadB, isTameB, List.range_succ, List.range']) | with_reducible refine pwp_block ?_ | with_reducible refine pwp_skip ?_ | with_reducible refine pwp_ret ?_ | with_reducible refine pwp_exit ?_ | (with_reducible refine cond_t ?_ ?_; (focus (simp [*]; done))) | (with_reducible refine cond_f ?_ ?_; (focus (simp [*]; done))) | with_reducible refine then_n ?_ | with_reducible refine then_r ?_ | with_reducible refine then_e ?_ | with_reducible refine then_g ?_ | with_reducible refine inB_n ?_ | with_reducible refine inB_r ?_ | with_reducible refine inB_e ?_ | with_reducible refine inB_o rfl ?_ | with_reducible refine inB_g ?_ | with_reducible refine Leads.go (by assumption) ?_)
  refine PCalls.mono (sizeOf_spec l _) ?_
  intro d3 H3 hd3
  rw [hd3.1, hd3.2]
  clear hd3
  simp [*]
  refine PCalls.mono (sizeOf_spec r _) ?_
  intro d3 H3 hd3
  rw [hd3.1, hd3.2]
  clear hd3
  simp [*]
  repeat (first | with_reducible refine seq_k fun K hK => ?_ | (with_reducible refine region_k fun K hK => ?_; simp [*]) | (with_reducible refine region_drawT_k mixedO (by decide +kernel) fun K hK => ?_; simp [*]) | (with_reducible refine region_tame_a mixedO (by decide +kernel) fun K hK => ?_; simp [*, Low, isLoadB, isTameB, List.range_succ, List.range']) | with_reducible refine pwp_block ?_ | with_reducible refine pwp_skip ?_ | with_reducible refine pwp_ret ?_ | with_reducible refine pwp_exit ?_ | (with_reducible refine cond_t ?_ ?_; (focus (simp [*]; done))) | (with_reducible refine cond_f ?_ ?_; (focus (simp [*]; done))) | with_reducible refine then_n ?_ | with_reducible refine then_r ?_ | with_reducible refine then_e ?_ | with_reducible refine then_g ?_ | with_reducible refine inB_n ?_ | with_reducible refine inB_r ?_ | with_reducible refine inB_e ?_ | with_reducible refine inB_o rfl ?_ | with_reducible refine inB_g ?_ | with_reducible refine Leads.go (by assumption) ?_)
  simp [*]
def nz : T → Prop
  | .nil => True
  | .node _ _ lv _ l r => lv ≠ 0 ∧ nz l ∧ nz r
def withT (p k : ByteArray) : T → T
  | .nil => .node p k 1 1 .nil .nil
  | .node q j lv sz l r => if cmpB p q = -1 then splitT (skewT (made (.node q j lv sz l r) lv (withT p k l) r)) else if cmpB p q = 1 then splitT (skewT (made (.node q j lv sz l r) lv l (withT p k r))) else
    .node q k lv (IntKind.i64.wrap (IntKind.i64.wrap (l.sz + 1) + r.sz)) l r
@[simp] theorem res22 : Try.f22.results.toList = [.tmp 6] := rfl
theorem pure_ent (k : ByteArray) : Pure (.agg (entC k)) := .agg _ fun d hd => by
  simp only [entC, List.mem_cons, List.mem_nil_iff, or_false] at hd
  rcases hd with rfl | rfl | rfl | rfl
  · exact .val _
  · exact .val _
  · exact .val _
  · exact .slice _ _ _ fun d hd => by cases hd
set_option maxHeartbeats 8000000 in
set_option maxRecDepth 100000 in
theorem with_spec (p k : ByteArray) : ∀ (t : T), nz t → ∀ H, PCalls Try.prog 22 [treeD t, strD p, .agg (entC k)] H fun d H' => d = treeD (withT p k t) ∧ H' = H
  | .nil, _, H => by
    refine PCalls.liftG (PCalls.mono (PCalls.frozenR (n := 10) (R := fun d => d = treeD (withT p k .nil)) ?_) fun d _ h => h) (fun d hd => ?_) (pure_tree _) H
    · refine PCalls.of_pwp Try.call22 Try.func22 rfl (by simp [Try.ntmps22]) ?_
      rw [Try.ntmps22]
      rw [withT]
      simp only [treeD_nil, strD, entC]
      repeat (first | with_reducible refine seq_k fun K hK => ?_ | (with_reducible refine region_k fun K hK => ?_; simp [*]) | (with_reducible refine region_drawT_k mixedO (by decide +kernel) fun K hK => ?_; simp [*]) | (with_reducible refine region_tame_a mixedO (by decide +kernel) fun K hK => ?_; simp [*, Low, isLoadB, isTameB, List.range_succ, List.range']) | with_reducible refine pwp_block ?_ | with_reducible refine pwp_skip ?_ | with_reducible refine pwp_ret ?_ | with_reducible refine pwp_exit ?_ | (with_reducible refine cond_t ?_ ?_; (focus (simp [*]; done))) | (with_reducible refine cond_f ?_ ?_; (focus (simp [*]; done))) | with_reducible refine then_n ?_ | with_reducible refine then_r ?_ | with_reducible refine then_e ?_ | with_reducible refine then_g ?_ | with_reducible refine inB_n ?_ | with_reducible refine inB_r ?_ | with_reducible refine inB_e ?_ | with_reducible refine inB_o rfl ?_ | with_reducible refine inB_g ?_ | with_reducible refine Leads.go (by assumption) ?_)
      simp [*]
      exact fz_node (l := .nil) (r := .nil) (Heap.new_same _ _) (by decide)
    · simp only [List.mem_cons, List.mem_nil_iff, or_false] at hd
      rcases hd with rfl | rfl | rfl
      · exact pure_tree _
      · exact .val _
      · exact pure_ent k
  | .node q j lv sz l r, hz, H => by
    have ih1 := with_spec p k l hz.2.1
    have ih2 := with_spec p k r hz.2.2
    refine PCalls.liftG (PCalls.mono (PCalls.frozenR (n := (withT p k (.node q j lv sz l r)).dep + l.dep + r.dep + 10) (R := fun d => d = treeD (withT p k (.node q j lv sz l r))) ?_) fun d _ h => h) (fun d hd => ?_) (pure_tree _) H
    · refine PCalls.of_pwp Try.call22 Try.func22 rfl (by simp [Try.ntmps22]) ?_
      rw [Try.ntmps22]
      have hc := cmp_spec p q
      generalize hcp : cmpB p q = c at *
      by_cases h1 : c = -1
      · have hW : withT p k (.node q j lv sz l r) = splitT (skewT (made (.node q j lv sz l r) lv (withT p k l) r)) := by rw [withT, hcp, if_pos h1]
        rw [hW]
        have hm := made_spec (.node q j lv sz l r) (by intro q; cases q) lv (withT p k l) r
        have hs := skew_spec (made (.node q j lv sz l r) lv (withT p k l) r) (fun p1 k1 lv1 sz1 l1 r1 e _ => by cases e; exact hz.1)
        have hp := split_spec (skewT (made (.node q j lv sz l r) lv (withT p k l) r))
        have hfz := fun H => fz_tree (P := Try.prog) H (splitT (skewT (made (.node q j lv sz l r) lv (withT p k l) r))) ((splitT (skewT (made (.node q j lv sz l r) lv (withT p k l) r))).dep + l.dep + r.dep + 10) (by omega)
        clear hW hcp ih2
        subst h1
        generalize splitT (skewT (made (.node q j lv sz l r) lv (withT p k l) r)) = R3 at *
        generalize skewT (made (.node q j lv sz l r) lv (withT p k l) r) = R2 at *
        generalize made (.node q j lv sz l r) lv (withT p k l) r = R1 at *
        generalize withT p k l = L1 at *
        have hz1 := hz.1
        clear hz
        simp only [treeD_node, strD, entC] at hm hc ih1 ⊢
        repeat (first | with_reducible refine seq_k fun K hK => ?_ | (with_reducible refine region_k fun K hK => ?_; simp [*]) | (with_reducible refine region_drawT_k mixedO (by decide +kernel) fun K hK => ?_; simp [*]) | (with_reducible refine region_tame_a mixedO (by decide +kernel) fun K hK => ?_; simp [*, Low, isLoadB, isTameB, List.range_succ, List.range']) | with_reducible refine pwp_block ?_ | with_reducible refine pwp_skip ?_ | with_reducible refine pwp_ret ?_ | with_reducible refine pwp_exit ?_ | (with_reducible refine cond_t ?_ ?_; (focus (simp [*]; done))) | (with_reducible refine cond_f ?_ ?_; (focus (simp [*]; done))) | with_reducible refine then_n ?_ | with_reducible refine then_r ?_ | with_reducible refine then_e ?_ | with_reducible refine then_g ?_ | with_reducible refine inB_n ?_ | with_reducible refine inB_r ?_ | with_reducible refine inB_e ?_ | with_reducible refine inB_o rfl ?_ | with_reducible refine inB_g ?_ | with_reducible refine Leads.go (by assumption) ?_)
        refine PCalls.mono (hc _) ?_
        intro d3 H3 hd3
        rw [hd3.1, hd3.2]
        clear hd3
        try simp [*]
        repeat (first | with_reducible refine seq_k fun K hK => ?_ | (with_reducible refine region_k fun K hK => ?_; simp [*]) | (with_reducible refine region_drawT_k mixedO (by decide +kernel) fun K hK => ?_; simp [*]) | (with_reducible refine region_tame_a mixedO (by decide +kernel) fun K hK => ?_; simp [*, Low, isLoadB, isTameB, List.range_succ, List.range']) | with_reducible refine pwp_block ?_ | with_reducible refine pwp_skip ?_ | with_reducible refine pwp_ret ?_ | with_reducible refine pwp_exit ?_ | (with_reducible refine cond_t ?_ ?_; (focus (simp [*]; done))) | (with_reducible refine cond_f ?_ ?_; (focus (simp [*]; done))) | with_reducible refine then_n ?_ | with_reducible refine then_r ?_ | with_reducible refine then_e ?_ | with_reducible refine then_g ?_ | with_reducible refine inB_n ?_ | with_reducible refine inB_r ?_ | with_reducible refine inB_e ?_ | with_reducible refine inB_o rfl ?_ | with_reducible refine inB_g ?_ | with_reducible refine Leads.go (by assumption) ?_)
        refine PCalls.mono (ih1 _) ?_
        intro d3 H3 hd3
        rw [hd3.1, hd3.2]
        clear hd3
        try simp [*]
        refine PCalls.mono (hm _) ?_
        intro d3 H3 hd3
        rw [hd3.1, hd3.2]
        clear hd3
        try simp [*]
        repeat (first | with_reducible refine seq_k fun K hK => ?_ | (with_reducible refine region_k fun K hK => ?_; simp [*]) | (with_reducible refine region_drawT_k mixedO (by decide +kernel) fun K hK => ?_; simp [*]) | (with_reducible refine region_tame_a mixedO (by decide +kernel) fun K hK => ?_; simp [*, Low, isLoadB, isTameB, List.range_succ, List.range']) | with_reducible refine pwp_block ?_ | with_reducible refine pwp_skip ?_ | with_reducible refine pwp_ret ?_ | with_reducible refine pwp_exit ?_ | (with_reducible refine cond_t ?_ ?_; (focus (simp [*]; done))) | (with_reducible refine cond_f ?_ ?_; (focus (simp [*]; done))) | with_reducible refine then_n ?_ | with_reducible refine then_r ?_ | with_reducible refine then_e ?_ | with_reducible refine then_g ?_ | with_reducible refine inB_n ?_ | with_reducible refine inB_r ?_ | with_reducible refine inB_e ?_ | with_reducible refine inB_o rfl ?_ | with_reducible refine inB_g ?_ | with_reducible refine Leads.go (by assumption) ?_)
        refine PCalls.mono (hs _) ?_
        intro d3 H3 hd3
        rw [hd3.1, hd3.2]
        clear hd3
        try simp [*]
        refine PCalls.mono (hp _) ?_
        intro d3 H3 hd3
        rw [hd3.1, hd3.2]
        clear hd3
        try simp [*]
        repeat (first | with_reducible refine seq_k fun K hK => ?_ | (with_reducible refine region_k fun K hK => ?_; simp [*]) | (with_reducible refine region_drawT_k mixedO (by decide +kernel) fun K hK => ?_; simp [*]) | (with_reducible refine region_tame_a mixedO (by decide +kernel) fun K hK => ?_; simp [*, Low, isLoadB, isTameB, List.range_succ, List.range']) | with_reducible refine pwp_block ?_ | with_reducible refine pwp_skip ?_ | with_reducible refine pwp_ret ?_ | with_reducible refine pwp_exit ?_ | (with_reducible refine cond_t ?_ ?_; (focus (simp [*]; done))) | (with_reducible refine cond_f ?_ ?_; (focus (simp [*]; done))) | with_reducible refine then_n ?_ | with_reducible refine then_r ?_ | with_reducible refine then_e ?_ | with_reducible refine then_g ?_ | with_reducible refine inB_n ?_ | with_reducible refine inB_r ?_ | with_reducible refine inB_e ?_ | with_reducible refine inB_o rfl ?_ | with_reducible refine inB_g ?_ | with_reducible refine Leads.go (by assumption) ?_)
        simp [*]
      · by_cases h2 : c = 1
        · have hW : withT p k (.node q j lv sz l r) = splitT (skewT (made (.node q j lv sz l r) lv l (withT p k r))) := by rw [withT, hcp, if_neg h1, if_pos h2]
          rw [hW]
          have hm := made_spec (.node q j lv sz l r) (by intro q; cases q) lv l (withT p k r)
          have hs := skew_spec (made (.node q j lv sz l r) lv l (withT p k r)) (fun p1 k1 lv1 sz1 l1 r1 e _ => by cases e; exact hz.1)
          have hp := split_spec (skewT (made (.node q j lv sz l r) lv l (withT p k r)))
          have hfz := fun H => fz_tree (P := Try.prog) H (splitT (skewT (made (.node q j lv sz l r) lv l (withT p k r)))) ((splitT (skewT (made (.node q j lv sz l r) lv l (withT p k r)))).dep + l.dep + r.dep + 10) (by omega)
          clear hW hcp ih1 h1
          subst h2
          generalize splitT (skewT (made (.node q j lv sz l r) lv l (withT p k r))) = R3 at *
          generalize skewT (made (.node q j lv sz l r) lv l (withT p k r)) = R2 at *
          generalize made (.node q j lv sz l r) lv l (withT p k r) = R1 at *
          generalize withT p k r = L1 at *
          have hz1 := hz.1
          clear hz
          simp only [treeD_node, strD, entC] at hm hc ih2 ⊢
          repeat (first | with_reducible refine seq_k fun K hK => ?_ | (with_reducible refine region_k fun K hK => ?_; simp [*]) | (with_reducible refine region_drawT_k mixedO (by decide +kernel) fun K hK => ?_; simp [*]) | (with_reducible refine region_tame_a mixedO (by decide +kernel) fun K hK => ?_; simp [*, Low, isLoadB, isTameB, List.range_succ, List.range']) | with_reducible refine pwp_block ?_ | with_reducible refine pwp_skip ?_ | with_reducible refine pwp_ret ?_ | with_reducible refine pwp_exit ?_ | (with_reducible refine cond_t ?_ ?_; (focus (simp [*]; done))) | (with_reducible refine cond_f ?_ ?_; (focus (simp [*]; done))) | with_reducible refine then_n ?_ | with_reducible refine then_r ?_ | with_reducible refine then_e ?_ | with_reducible refine then_g ?_ | with_reducible refine inB_n ?_ | with_reducible refine inB_r ?_ | with_reducible refine inB_e ?_ | with_reducible refine inB_o rfl ?_ | with_reducible refine inB_g ?_ | with_reducible refine Leads.go (by assumption) ?_)
          refine PCalls.mono (hc _) ?_
          intro d3 H3 hd3
          rw [hd3.1, hd3.2]
          clear hd3
          try simp [*]
          repeat (first | with_reducible refine seq_k fun K hK => ?_ | (with_reducible refine region_k fun K hK => ?_; simp [*]) | (with_reducible refine region_drawT_k mixedO (by decide +kernel) fun K hK => ?_; simp [*]) | (with_reducible refine region_tame_a mixedO (by decide +kernel) fun K hK => ?_; simp [*, Low, isLoadB, isTameB, List.range_succ, List.range']) | with_reducible refine pwp_block ?_ | with_reducible refine pwp_skip ?_ | with_reducible refine pwp_ret ?_ | with_reducible refine pwp_exit ?_ | (with_reducible refine cond_t ?_ ?_; (focus (simp [*]; done))) | (with_reducible refine cond_f ?_ ?_; (focus (simp [*]; done))) | with_reducible refine then_n ?_ | with_reducible refine then_r ?_ | with_reducible refine then_e ?_ | with_reducible refine then_g ?_ | with_reducible refine inB_n ?_ | with_reducible refine inB_r ?_ | with_reducible refine inB_e ?_ | with_reducible refine inB_o rfl ?_ | with_reducible refine inB_g ?_ | with_reducible refine Leads.go (by assumption) ?_)
          refine PCalls.mono (ih2 _) ?_
          intro d3 H3 hd3
          rw [hd3.1, hd3.2]
          clear hd3
          try simp [*]
          refine PCalls.mono (hm _) ?_
          intro d3 H3 hd3
          rw [hd3.1, hd3.2]
          clear hd3
          try simp [*]
          repeat (first | with_reducible refine seq_k fun K hK => ?_ | (with_reducible refine region_k fun K hK => ?_; simp [*]) | (with_reducible refine region_drawT_k mixedO (by decide +kernel) fun K hK => ?_; simp [*]) | (with_reducible refine region_tame_a mixedO (by decide +kernel) fun K hK => ?_; simp [*, Low, isLoadB, isTameB, List.range_succ, List.range']) | with_reducible refine pwp_block ?_ | with_reducible refine pwp_skip ?_ | with_reducible refine pwp_ret ?_ | with_reducible refine pwp_exit ?_ | (with_reducible refine cond_t ?_ ?_; (focus (simp [*]; done))) | (with_reducible refine cond_f ?_ ?_; (focus (simp [*]; done))) | with_reducible refine then_n ?_ | with_reducible refine then_r ?_ | with_reducible refine then_e ?_ | with_reducible refine then_g ?_ | with_reducible refine inB_n ?_ | with_reducible refine inB_r ?_ | with_reducible refine inB_e ?_ | with_reducible refine inB_o rfl ?_ | with_reducible refine inB_g ?_ | with_reducible refine Leads.go (by assumption) ?_)
          refine PCalls.mono (hs _) ?_
          intro d3 H3 hd3
          rw [hd3.1, hd3.2]
          clear hd3
          try simp [*]
          refine PCalls.mono (hp _) ?_
          intro d3 H3 hd3
          rw [hd3.1, hd3.2]
          clear hd3
          try simp [*]
          repeat (first | with_reducible refine seq_k fun K hK => ?_ | (with_reducible refine region_k fun K hK => ?_; simp [*]) | (with_reducible refine region_drawT_k mixedO (by decide +kernel) fun K hK => ?_; simp [*]) | (with_reducible refine region_tame_a mixedO (by decide +kernel) fun K hK => ?_; simp [*, Low, isLoadB, isTameB, List.range_succ, List.range']) | with_reducible refine pwp_block ?_ | with_reducible refine pwp_skip ?_ | with_reducible refine pwp_ret ?_ | with_reducible refine pwp_exit ?_ | (with_reducible refine cond_t ?_ ?_; (focus (simp [*]; done))) | (with_reducible refine cond_f ?_ ?_; (focus (simp [*]; done))) | with_reducible refine then_n ?_ | with_reducible refine then_r ?_ | with_reducible refine then_e ?_ | with_reducible refine then_g ?_ | with_reducible refine inB_n ?_ | with_reducible refine inB_r ?_ | with_reducible refine inB_e ?_ | with_reducible refine inB_o rfl ?_ | with_reducible refine inB_g ?_ | with_reducible refine Leads.go (by assumption) ?_)
          simp [*]
        · have hW : withT p k (.node q j lv sz l r) = .node q k lv (IntKind.i64.wrap (IntKind.i64.wrap (l.sz + 1) + r.sz)) l r := by rw [withT, hcp, if_neg h1, if_neg h2]
          rw [hW]
          have hm := made_own q j lv sz l r lv l r
          have hfz := fun H i hi => fz_node (P := Try.prog) (H := H) (i := i) (p := q) (k := k) (lv := lv) (sz := IntKind.i64.wrap (IntKind.i64.wrap (l.sz + 1) + r.sz)) (l := l) (r := r) (n := (T.node q k lv (IntKind.i64.wrap (IntKind.i64.wrap (l.sz + 1) + r.sz)) l r).dep + l.dep + r.dep + 10) hi (by simp only [T.dep]; omega)
          clear hW hcp ih1 ih2 hz
          generalize IntKind.i64.wrap (IntKind.i64.wrap (l.sz + 1) + r.sz) = sz2 at *
          generalize (T.node q k lv sz2 l r).dep + l.dep + r.dep + 10 = nn at *
          simp only [treeD_node, strD, entC, nodeC] at hm hc ⊢
          repeat (first | with_reducible refine seq_k fun K hK => ?_ | (with_reducible refine region_k fun K hK => ?_; simp [*]) | (with_reducible refine region_drawT_k mixedO (by decide +kernel) fun K hK => ?_; simp [*]) | (with_reducible refine region_tame_a mixedO (by decide +kernel) fun K hK => ?_; simp [*, Low, isLoadB, isTameB, List.range_succ, List.range']) | with_reducible refine pwp_block ?_ | with_reducible refine pwp_skip ?_ | with_reducible refine pwp_ret ?_ | with_reducible refine pwp_exit ?_ | (with_reducible refine cond_t ?_ ?_; (focus (simp [*]; done))) | (with_reducible refine cond_f ?_ ?_; (focus (simp [*]; done))) | with_reducible refine then_n ?_ | with_reducible refine then_r ?_ | with_reducible refine then_e ?_ | with_reducible refine then_g ?_ | with_reducible refine inB_n ?_ | with_reducible refine inB_r ?_ | with_reducible refine inB_e ?_ | with_reducible refine inB_o rfl ?_ | with_reducible refine inB_g ?_ | with_reducible refine Leads.go (by assumption) ?_)
          refine PCalls.mono (hc _) ?_
          intro d3 H3 hd3
          rw [hd3.1, hd3.2]
          clear hd3
          try simp [*]
          repeat (first | with_reducible refine seq_k fun K hK => ?_ | (with_reducible refine region_k fun K hK => ?_; simp [*]) | (with_reducible refine region_drawT_k mixedO (by decide +kernel) fun K hK => ?_; simp [*]) | (with_reducible refine region_tame_a mixedO (by decide +kernel) fun K hK => ?_; simp [*, Low, isLoadB, isTameB, List.range_succ, List.range']) | with_reducible refine pwp_block ?_ | with_reducible refine pwp_skip ?_ | with_reducible refine pwp_ret ?_ | with_reducible refine pwp_exit ?_ | (with_reducible refine cond_t ?_ ?_; (focus (simp [*]; done))) | (with_reducible refine cond_f ?_ ?_; (focus (simp [*]; done))) | with_reducible refine then_n ?_ | with_reducible refine then_r ?_ | with_reducible refine then_e ?_ | with_reducible refine then_g ?_ | with_reducible refine inB_n ?_ | with_reducible refine inB_r ?_ | with_reducible refine inB_e ?_ | with_reducible refine inB_o rfl ?_ | with_reducible refine inB_g ?_ | with_reducible refine Leads.go (by assumption) ?_)
          refine PCalls.mono (hm _) ?_
          intro d3 H3 hd3
          rw [hd3.1, hd3.2]
          clear hd3
          try simp [*]
          repeat (first | with_reducible refine seq_k fun K hK => ?_ | (with_reducible refine region_k fun K hK => ?_; simp [*]) | (with_reducible refine region_drawT_k mixedO (by decide +kernel) fun K hK => ?_; simp [*]) | (with_reducible refine region_tame_a mixedO (by decide +kernel) fun K hK => ?_; simp [*, Low, isLoadB, isTameB, List.range_succ, List.range']) | with_reducible refine pwp_block ?_ | with_reducible refine pwp_skip ?_ | with_reducible refine pwp_ret ?_ | with_reducible refine pwp_exit ?_ | (with_reducible refine cond_t ?_ ?_; (focus (simp [*]; done))) | (with_reducible refine cond_f ?_ ?_; (focus (simp [*]; done))) | with_reducible refine then_n ?_ | with_reducible refine then_r ?_ | with_reducible refine then_e ?_ | with_reducible refine then_g ?_ | with_reducible refine inB_n ?_ | with_reducible refine inB_r ?_ | with_reducible refine inB_e ?_ | with_reducible refine inB_o rfl ?_ | with_reducible refine inB_g ?_ | with_reducible refine Leads.go (by assumption) ?_)
          have hf2 := fun H i hi => (hfz H i hi).trans (congrArg some (treeD_node q k lv sz2 l r))
          clear hfz hm hc
          simp only [strD] at hf2
          simp [*]
    · simp only [List.mem_cons, List.mem_nil_iff, or_false] at hd
      rcases hd with rfl | rfl | rfl
      · exact pure_tree _
      · exact .val _
      · exact pure_ent k
end Go.Pv
