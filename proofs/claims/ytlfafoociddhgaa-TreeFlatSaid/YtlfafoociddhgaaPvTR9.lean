/- A part of the proof: functions of the program, walked, or what operations come to. -/
import Derived.Test.YtlfafoociddhgaaPvTR8
-- ZpvTameA ZpvDrawT
namespace Go.Pv
open Go.Proofs
attribute [local simp] Try.underlying3 Try.underlying4 Try.underlying5 Try.underlying9 Try.underlying23 Try.underlying25 Try.underlying33 Try.underlying36 Try.underlying62 Try.underlying71 Heap.new_get Heap.put_get strD fillD
@[simp] theorem res11 : Try.f11.results.toList = [.cell 2 25] := rfl
set_option maxHeartbeats 4000000 in
set_option maxRecDepth 100000 in
theorem Of2_spec (i : Nat) (H : Heap) (x y : ByteArray) (hi : H.get i = some (.row 33 [enD x, enD y])) (hlt : i < H.nx)
    (px : plainS x) (sx : x.size ≤ 1000) (nx : x.size ≠ 0) (py : plainS y) (sy : y.size ≤ 1000) (ny : y.size ≠ 0) (hz : nz (withT (ord1 x) x .nil)) :
    PCalls Try.prog 11 [.row i 33 0 2] H fun d _ => d = tr (withT (ord1 y) y (withT (ord1 x) x .nil)) := by
  refine PCalls.of_pwp Try.call11 Try.func11 rfl (by simp [Try.ntmps11]) ?_
  rw [Try.ntmps11]
  have h1 := With_spec .nil trivial x px sx nx
  have h2 := With_spec (withT (ord1 x) x .nil) hz y py sy ny
  clear px sx nx py sy ny hz
  generalize withT (ord1 x) x .nil = t1 at *
  generalize withT (ord1 y) y t1 = t2 at *
  simp only [tr] at h1 h2 ⊢
  have hi1 : i ≠ H.nx := by omega
  have hi2 : i ≠ H.nx + 1 := by omega
  repeat (first | with_reducible refine seq_k fun K hK => ?_ | (with_reducible refine region_k fun K hK => ?_; simp [*]) | (with_reducible refine region_drawT_k mixedO (by decide +kernel) fun K hK => ?_; simp [*]) | (with_reducible refine region_tame_a mixedO (by decide +kernel) fun K hK => ?_; simp [*, Low, isLoadB, isTameB, List.range_succ, List.range']) | with_reducible refine pwp_block ?_ | with_reducible refine pwp_skip ?_ | with_reducible refine pwp_ret ?_ | with_reducible refine pwp_exit ?_ | (with_reducible refine cond_t ?_ ?_; (focus (simp [*]; done))) | (with_reducible refine cond_f ?_ ?_; (focus (simp [*]; done))) | with_reducible refine then_n ?_ | with_reducible refine then_r ?_ | with_reducible refine then_e ?_ | with_reducible refine then_g ?_ | with_reducible refine inB_n ?_ | with_reducible refine inB_r ?_ | with_reducible refine inB_e ?_ | with_reducible refine inB_o rfl ?_ | with_reducible refine inB_g ?_ | with_reducible refine Leads.go (by assumption) ?_)
  refine pwp_loop (fun m st => ∃ k : Nat, m = 2 - k ∧ k ≤ 2 ∧ st.env.n = 17 ∧ st.df = [] ∧ st.H.nx = H.nx + 2 + k ∧ st.H.get i = some (.row 33 [enD x, enD y]) ∧ st.H.get (H.nx + 1) = some (.cells [treeD (if k = 0 then .nil else if k = 1 then t1 else t2)]) ∧ st.H.get H.nx = some (.cells [.val (.pointer none)]) ∧ st.env.get 2 = .ptr H.nx 0 ∧ st.env.get 3 = .ptr (H.nx + 1) 0 ∧ st.env.get 6 = .row i 33 0 2 ∧ st.env.get 7 = .val (.int .i64 2) ∧ st.env.get 8 = .val (.int .i64 (k : Nat))) 2 ⟨0, rfl, by omega, by simp, rfl, by simp, by simp [*], by simp, by simp, by simp, by simp, by simp, by simp, by simp⟩ ?_
  rintro m ⟨E, H2, df⟩ ⟨k, rfl, hk, en, edf, eN, eR, eT, eZ, e2, e3, e6, e7, e8⟩
  simp only at en edf eN eR eT eZ e2 e3 e6 e7 e8
  subst edf
  have n1 : i ≠ H2.nx := by omega
  have n2 : ¬ H.nx + 1 = H2.nx := by omega
  have n3 : ¬ H.nx = H2.nx := by omega
  have n4 : ¬ H2.nx = H.nx + 1 := by omega
  have n5 : ¬ H.nx + 1 = i := by omega
  have hk3 : k = 0 ∨ k = 1 ∨ k = 2 := by omega
  have kN := Hold.mk eN
  clear eN
  rcases hk3 with rfl | rfl | rfl
  · simp only [if_true] at eT
    simp only [enD, entC, strD, treeD_nil] at h1 eR ⊢
    clear hi h2
    repeat (first | with_reducible refine seq_k fun K hK => ?_ | (with_reducible refine region_k fun K hK => ?_; simp [*]) | (with_reducible refine region_drawT_k mixedO (by decide +kernel) fun K hK => ?_; simp [*]) | (with_reducible refine region_tame_a mixedO (by decide +kernel) fun K hK => ?_; simp [*, Low, isLoadB, isTameB, List.range_succ, List.range']) | with_reducible refine pwp_block ?_ | with_reducible refine pwp_skip ?_ | with_reducible refine pwp_ret ?_ | with_reducible refine pwp_exit ?_ | (with_reducible refine cond_t ?_ ?_; (focus (simp [*]; done))) | (with_reducible refine cond_f ?_ ?_; (focus (simp [*]; done))) | with_reducible refine then_n ?_ | with_reducible refine then_r ?_ | with_reducible refine then_e ?_ | with_reducible refine then_g ?_ | with_reducible refine inB_n ?_ | with_reducible refine inB_r ?_ | with_reducible refine inB_e ?_ | with_reducible refine inB_o rfl ?_ | with_reducible refine inB_g ?_ | with_reducible refine Leads.go (by assumption) ?_)
    refine PCalls.mono (h1 _) ?_
    intro d3 H3 hd3
    rw [hd3.1, hd3.2]
    clear hd3
    try simp [*]
    repeat (first | with_reducible refine seq_k fun K hK => ?_ | (with_reducible refine region_k fun K hK => ?_; simp [*]) | (with_reducible refine region_drawT_k mixedO (by decide +kernel) fun K hK => ?_; simp [*]) | (with_reducible refine region_tame_a mixedO (by decide +kernel) fun K hK => ?_; simp [*, Low, isLoadB, isTameB, List.range_succ, List.range']) | with_reducible refine pwp_block ?_ | with_reducible refine pwp_skip ?_ | with_reducible refine pwp_ret ?_ | with_reducible refine pwp_exit ?_ | (with_reducible refine cond_t ?_ ?_; (focus (simp [*]; done))) | (with_reducible refine cond_f ?_ ?_; (focus (simp [*]; done))) | with_reducible refine then_n ?_ | with_reducible refine then_r ?_ | with_reducible refine then_e ?_ | with_reducible refine then_g ?_ | with_reducible refine inB_n ?_ | with_reducible refine inB_r ?_ | with_reducible refine inB_e ?_ | with_reducible refine inB_o rfl ?_ | with_reducible refine inB_g ?_ | with_reducible refine Leads.go (by assumption) ?_)
    refine ⟨1, by omega, 1, by omega, by omega, by simp [*], rfl, ?_, ?_, ?_, ?_, ?_, ?_, ?_, ?_, ?_⟩
    · have := kN.out; simp [this]; try omega
    all_goals first | (simp [*]; done) | simp [*, IntKind.wrap, IntKind.bits, IntKind.signed]
  · simp only [Nat.one_ne_zero, if_false, if_true] at eT
    simp only [enD, entC, strD, treeD_nil] at h2 eR ⊢
    clear hi h1
    repeat (first | with_reducible refine seq_k fun K hK => ?_ | (with_reducible refine region_k fun K hK => ?_; simp [*]) | (with_reducible refine region_drawT_k mixedO (by decide +kernel) fun K hK => ?_; simp [*]) | (with_reducible refine region_tame_a mixedO (by decide +kernel) fun K hK => ?_; simp [*, Low, isLoadB, isTameB, List.range_succ, List.range']) | with_reducible refine pwp_block ?_ | with_reducible refine pwp_skip ?_ | with_reducible refine pwp_ret ?_ | with_reducible refine pwp_exit ?_ | (with_reducible refine cond_t ?_ ?_; (focus (simp [*]; done))) | (with_reducible refine cond_f ?_ ?_; (focus (simp [*]; done))) | with_reducible refine then_n ?_ | with_reducible refine then_r ?_ | with_reducible refine then_e ?_ | with_reducible refine then_g ?_ | with_reducible refine inB_n ?_ | with_reducible refine inB_r ?_ | with_reducible refine inB_e ?_ | with_reducible refine inB_o rfl ?_ | with_reducible refine inB_g ?_ | with_reducible refine Leads.go (by assumption) ?_)
    refine PCalls.mono (h2 _) ?_
    intro d3 H3 hd3
    rw [hd3.1, hd3.2]
    clear hd3
    try simp [*]
    repeat (first | with_reducible refine seq_k fun K hK => ?_ | (with_reducible refine region_k fun K hK => ?_; simp [*]) | (with_reducible refine region_drawT_k mixedO (by decide +kernel) fun K hK => ?_; simp [*]) | (with_reducible refine region_tame_a mixedO (by decide +kernel) fun K hK => ?_; simp [*, Low, isLoadB, isTameB, List.range_succ, List.range']) | with_reducible refine pwp_block ?_ | with_reducible refine pwp_skip ?_ | with_reducible refine pwp_ret ?_ | with_reducible refine pwp_exit ?_ | (with_reducible refine cond_t ?_ ?_; (focus (simp [*]; done))) | (with_reducible refine cond_f ?_ ?_; (focus (simp [*]; done))) | with_reducible refine then_n ?_ | with_reducible refine then_r ?_ | with_reducible refine then_e ?_ | with_reducible refine then_g ?_ | with_reducible refine inB_n ?_ | with_reducible refine inB_r ?_ | with_reducible refine inB_e ?_ | with_reducible refine inB_o rfl ?_ | with_reducible refine inB_g ?_ | with_reducible refine Leads.go (by assumption) ?_)
    refine ⟨0, by omega, 2, by omega, by omega, by simp [*], rfl, ?_, ?_, ?_, ?_, ?_, ?_, ?_, ?_, ?_⟩
    · have := kN.out; simp [this]; try omega
    all_goals first | (simp [*]; done) | simp [*, IntKind.wrap, IntKind.bits, IntKind.signed]
  · have e : (if (2 : Nat) = 0 then T.nil else if (2 : Nat) = 1 then t1 else t2) = t2 := rfl
    rw [e] at eT
    clear hi h1 h2 e
    repeat (first | with_reducible refine seq_k fun K hK => ?_ | (with_reducible refine region_k fun K hK => ?_; simp [*]) | (with_reducible refine region_drawT_k mixedO (by decide +kernel) fun K hK => ?_; simp [*]) | (with_reducible refine region_tame_a mixedO (by decide +kernel) fun K hK => ?_; simp [*, Low, isLoadB, isTameB, List.range_succ, List.range']) | with_reducible refine pwp_block ?_ | with_reducible refine pwp_skip ?_ | with_reducible refine pwp_ret ?_ | with_reducible refine pwp_exit ?_ | (with_reducible refine cond_t ?_ ?_; (focus (simp [*]; done))) | (with_reducible refine cond_f ?_ ?_; (focus (simp [*]; done))) | with_reducible refine then_n ?_ | with_reducible refine then_r ?_ | with_reducible refine then_e ?_ | with_reducible refine then_g ?_ | with_reducible refine inB_n ?_ | with_reducible refine inB_r ?_ | with_reducible refine inB_e ?_ | with_reducible refine inB_o rfl ?_ | with_reducible refine inB_g ?_ | with_reducible refine Leads.go (by assumption) ?_)
    simp [*]
end Go.Pv
