/- A part of the proof: functions of the program, walked, or what operations come to. -/
import Derived.Test.YtaglagcanhiemaaDoorPvOD
-- ZpvTameA ZpvDrawT
namespace Go.Pv
open Go.Proofs
attribute [-simp] eLen UInt8.ofNat_add

/-! ### The laws OidTells and OidBack -/
theorem put_one : putM [49, 46, 51, 46, 54, 46, 49] = some [43, 6, 1] := by decide +kernel
theorem put_bad : putM [49, 46, 52, 48] = none := by decide +kernel
theorem put_good : (arcsM [50, 46, 52, 48]).isSome = true := by decide +kernel
@[simp] theorem u8eq (a : By) : (5 = 5 ∨ a.map byD = []) = True := eq_true (.inl rfl)
set_option maxHeartbeats 4000000 in
set_option maxRecDepth 100000 in
theorem OidTells_local (l : By) (hw : l.length ≤ 140737488351232) (g e : Nat) (bs : By) (he : e = 5 ∨ bs = []) (hb : bs.length ≤ 140737488355328) : PCalls Tryd.prog 4 [sD l, .slice g e (bs.map byD)] (noHeap noG) fun d _ => d = .val (.bool true) := by
  refine PCalls.of_pwp Tryd.call4 Tryd.func4 rfl (by simp [Tryd.ntmps4]) ?_
  rw [Tryd.ntmps4]
  have hml : (bs.map byD).length = bs.length := by simp
  have w1 := wrapI ((l.length : Int) + (bs.length : Int)) (by omega) (by omega)
  by_cases h300 : 300 < (l.length : Int) + (bs.length : Int)
  · repeat (first | with_reducible refine seq_k fun K hK => ?_ | (with_reducible refine region_k fun K hK => ?_; simp [*]) | (with_reducible refine region_drawT_k mixedO (by decide +kernel) fun K hK => ?_; simp [*]) | (with_reducible refine region_tame_a mixedO (by decide +kernel) fun K hK => ?_; simp [*, Low, isLoadB, isTameB, List.range_succ, List.range']) | with_reducible refine pwp_block ?_ | with_reducible refine pwp_skip ?_ | with_reducible refine pwp_ret ?_ | with_reducible refine pwp_exit ?_ | (with_reducible refine cond_t ?_ ?_; (focus (simp [*]; done))) | (with_reducible refine cond_f ?_ ?_; (focus (simp [*]; done))) | with_reducible refine then_n ?_ | with_reducible refine then_r ?_ | with_reducible refine then_e ?_ | with_reducible refine then_g ?_ | with_reducible refine inB_n ?_ | with_reducible refine inB_r ?_ | with_reducible refine inB_e ?_ | with_reducible refine inB_o rfl ?_ | with_reducible refine inB_g ?_ | with_reducible refine Leads.go (by assumption) ?_)
    simp [*]
  have hP := Put_spec l (by omega)
  have hQ := rPut_spec l (by omega)
  have hR := Read_spec g e bs he (by omega)
  have hS := rRead_spec g e bs he (by omega)
  have hO := Put_spec [49, 46, 51, 46, 54, 46, 49] (by decide)
  rw [put_one] at hO
  have hN := Numeric_spec l (by omega)
  have hW := Word_spec l (by omega)
  have hX := rWord_spec l (by omega)
  have hL := Lower_spec l (by omega)
  have hM := rLower_spec l (by omega)
  have hNP : (putM l).isSome = (arcsM l).isSome := by unfold putM; simp
  rw [← hNP] at hN
  obtain ⟨B, hB⟩ : ∃ B, bs.map byD = B := ⟨_, rfl⟩
  rw [hB] at hml hR hS ⊢
  clear hNP hB
  have hE1 : eToStr [byD 43, byD 6, byD 1] = some (.val (.string ⟨#[43, 6, 1]⟩)) := rfl
  simp only [putD] at hO
  generalize lowL l = lo at *
  generalize wordB l = wo at *
  generalize putM l = r at *
  generalize readM bs = r2 at *
  have h0s : eToStr [] = some (.val (.string ⟨#[]⟩)) := rfl
  rcases r with _ | b2
  · simp only [putD, Option.isSome] at hP hQ hN
    rcases r2 with _ | s2
    · simp only [readD] at hR hS
      repeat (first | with_reducible refine seq_k fun K hK => ?_ | (with_reducible refine region_k fun K hK => ?_; simp [*]) | (with_reducible refine region_drawT_k mixedO (by decide +kernel) fun K hK => ?_; simp [*]) | (with_reducible refine region_tame_a mixedO (by decide +kernel) fun K hK => ?_; simp [*, Low, isLoadB, isTameB, List.range_succ, List.range']) | with_reducible refine pwp_block ?_ | with_reducible refine pwp_skip ?_ | with_reducible refine pwp_ret ?_ | with_reducible refine pwp_exit ?_ | (with_reducible refine cond_t ?_ ?_; (focus (simp [*]; done))) | (with_reducible refine cond_f ?_ ?_; (focus (simp [*]; done))) | with_reducible refine then_n ?_ | with_reducible refine then_r ?_ | with_reducible refine then_e ?_ | with_reducible refine then_g ?_ | with_reducible refine inB_n ?_ | with_reducible refine inB_r ?_ | with_reducible refine inB_e ?_ | with_reducible refine inB_o rfl ?_ | with_reducible refine inB_g ?_ | with_reducible refine Leads.go (by assumption) ?_)
      refine PCalls.mono (hP _) ?_
      intro d3 H3 hd3
      rw [hd3.1, hd3.2]
      clear hd3
      try simp [*]
      repeat (first | with_reducible refine seq_k fun K hK => ?_ | (with_reducible refine region_k fun K hK => ?_; simp [*]) | (with_reducible refine region_drawT_k mixedO (by decide +kernel) fun K hK => ?_; simp [*]) | (with_reducible refine region_tame_a mixedO (by decide +kernel) fun K hK => ?_; simp [*, Low, isLoadB, isTameB, List.range_succ, List.range']) | with_reducible refine pwp_block ?_ | with_reducible refine pwp_skip ?_ | with_reducible refine pwp_ret ?_ | with_reducible refine pwp_exit ?_ | (with_reducible refine cond_t ?_ ?_; (focus (simp [*]; done))) | (with_reducible refine cond_f ?_ ?_; (focus (simp [*]; done))) | with_reducible refine then_n ?_ | with_reducible refine then_r ?_ | with_reducible refine then_e ?_ | with_reducible refine then_g ?_ | with_reducible refine inB_n ?_ | with_reducible refine inB_r ?_ | with_reducible refine inB_e ?_ | with_reducible refine inB_o rfl ?_ | with_reducible refine inB_g ?_ | with_reducible refine Leads.go (by assumption) ?_)
      refine PCalls.mono (hQ _) ?_
      intro d3 H3 hd3
      rw [hd3.1, hd3.2]
      clear hd3
      try simp [*]
      repeat (first | with_reducible refine seq_k fun K hK => ?_ | (with_reducible refine region_k fun K hK => ?_; simp [*]) | (with_reducible refine region_drawT_k mixedO (by decide +kernel) fun K hK => ?_; simp [*]) | (with_reducible refine region_tame_a mixedO (by decide +kernel) fun K hK => ?_; simp [*, Low, isLoadB, isTameB, List.range_succ, List.range']) | with_reducible refine pwp_block ?_ | with_reducible refine pwp_skip ?_ | with_reducible refine pwp_ret ?_ | with_reducible refine pwp_exit ?_ | (with_reducible refine cond_t ?_ ?_; (focus (simp [*]; done))) | (with_reducible refine cond_f ?_ ?_; (focus (simp [*]; done))) | with_reducible refine then_n ?_ | with_reducible refine then_r ?_ | with_reducible refine then_e ?_ | with_reducible refine then_g ?_ | with_reducible refine inB_n ?_ | with_reducible refine inB_r ?_ | with_reducible refine inB_e ?_ | with_reducible refine inB_o rfl ?_ | with_reducible refine inB_g ?_ | with_reducible refine Leads.go (by assumption) ?_)
      refine PCalls.mono (hR _) ?_
      intro d3 H3 hd3
      rw [hd3.1, hd3.2]
      clear hd3
      try simp [*]
      repeat (first | with_reducible refine seq_k fun K hK => ?_ | (with_reducible refine region_k fun K hK => ?_; simp [*]) | (with_reducible refine region_drawT_k mixedO (by decide +kernel) fun K hK => ?_; simp [*]) | (with_reducible refine region_tame_a mixedO (by decide +kernel) fun K hK => ?_; simp [*, Low, isLoadB, isTameB, List.range_succ, List.range']) | with_reducible refine pwp_block ?_ | with_reducible refine pwp_skip ?_ | with_reducible refine pwp_ret ?_ | with_reducible refine pwp_exit ?_ | (with_reducible refine cond_t ?_ ?_; (focus (simp [*]; done))) | (with_reducible refine cond_f ?_ ?_; (focus (simp [*]; done))) | with_reducible refine then_n ?_ | with_reducible refine then_r ?_ | with_reducible refine then_e ?_ | with_reducible refine then_g ?_ | with_reducible refine inB_n ?_ | with_reducible refine inB_r ?_ | with_reducible refine inB_e ?_ | with_reducible refine inB_o rfl ?_ | with_reducible refine inB_g ?_ | with_reducible refine Leads.go (by assumption) ?_)
      refine PCalls.mono (hS _) ?_
      intro d3 H3 hd3
      rw [hd3.1, hd3.2]
      clear hd3
      try simp [*]
      repeat (first | with_reducible refine seq_k fun K hK => ?_ | (with_reducible refine region_k fun K hK => ?_; simp [*]) | (with_reducible refine region_drawT_k mixedO (by decide +kernel) fun K hK => ?_; simp [*]) | (with_reducible refine region_tame_a mixedO (by decide +kernel) fun K hK => ?_; simp [*, Low, isLoadB, isTameB, List.range_succ, List.range']) | with_reducible refine pwp_block ?_ | with_reducible refine pwp_skip ?_ | with_reducible refine pwp_ret ?_ | with_reducible refine pwp_exit ?_ | (with_reducible refine cond_t ?_ ?_; (focus (simp [*]; done))) | (with_reducible refine cond_f ?_ ?_; (focus (simp [*]; done))) | with_reducible refine then_n ?_ | with_reducible refine then_r ?_ | with_reducible refine then_e ?_ | with_reducible refine then_g ?_ | with_reducible refine inB_n ?_ | with_reducible refine inB_r ?_ | with_reducible refine inB_e ?_ | with_reducible refine inB_o rfl ?_ | with_reducible refine inB_g ?_ | with_reducible refine Leads.go (by assumption) ?_)
      refine PCalls.mono (hO _) ?_
      intro d3 H3 hd3
      rw [hd3.1, hd3.2]
      clear hd3
      try simp [*]
      repeat (first | with_reducible refine seq_k fun K hK => ?_ | (with_reducible refine region_k fun K hK => ?_; simp [*]) | (with_reducible refine region_drawT_k mixedO (by decide +kernel) fun K hK => ?_; simp [*]) | (with_reducible refine region_tame_a mixedO (by decide +kernel) fun K hK => ?_; simp [*, Low, isLoadB, isTameB, List.range_succ, List.range']) | with_reducible refine pwp_block ?_ | with_reducible refine pwp_skip ?_ | with_reducible refine pwp_ret ?_ | with_reducible refine pwp_exit ?_ | (with_reducible refine cond_t ?_ ?_; (focus (simp [*]; done))) | (with_reducible refine cond_f ?_ ?_; (focus (simp [*]; done))) | with_reducible refine then_n ?_ | with_reducible refine then_r ?_ | with_reducible refine then_e ?_ | with_reducible refine then_g ?_ | with_reducible refine inB_n ?_ | with_reducible refine inB_r ?_ | with_reducible refine inB_e ?_ | with_reducible refine inB_o rfl ?_ | with_reducible refine inB_g ?_ | with_reducible refine Leads.go (by assumption) ?_)
      refine PCalls.mono (hN _) ?_
      intro d3 H3 hd3
      rw [hd3.1, hd3.2]
      clear hd3
      try simp [*]
      refine PCalls.mono (hW _) ?_
      intro d3 H3 hd3
      rw [hd3.1, hd3.2]
      clear hd3
      try simp [*]
      try simp [*]
      repeat (first | with_reducible refine seq_k fun K hK => ?_ | (with_reducible refine region_k fun K hK => ?_; simp [*]) | (with_reducible refine region_drawT_k mixedO (by decide +kernel) fun K hK => ?_; simp [*]) | (with_reducible refine region_tame_a mixedO (by decide +kernel) fun K hK => ?_; simp [*, Low, isLoadB, isTameB, List.range_succ, List.range']) | with_reducible refine pwp_block ?_ | with_reducible refine pwp_skip ?_ | with_reducible refine pwp_ret ?_ | with_reducible refine pwp_exit ?_ | (with_reducible refine cond_t ?_ ?_; (focus (simp [*]; done))) | (with_reducible refine cond_f ?_ ?_; (focus (simp [*]; done))) | with_reducible refine then_n ?_ | with_reducible refine then_r ?_ | with_reducible refine then_e ?_ | with_reducible refine then_g ?_ | with_reducible refine inB_n ?_ | with_reducible refine inB_r ?_ | with_reducible refine inB_e ?_ | with_reducible refine inB_o rfl ?_ | with_reducible refine inB_g ?_ | with_reducible refine Leads.go (by assumption) ?_)
      refine PCalls.mono (hX _) ?_
      intro d3 H3 hd3
      rw [hd3.1, hd3.2]
      clear hd3
      try simp [*]
      try simp [*]
      repeat (first | with_reducible refine seq_k fun K hK => ?_ | (with_reducible refine region_k fun K hK => ?_; simp [*]) | (with_reducible refine region_drawT_k mixedO (by decide +kernel) fun K hK => ?_; simp [*]) | (with_reducible refine region_tame_a mixedO (by decide +kernel) fun K hK => ?_; simp [*, Low, isLoadB, isTameB, List.range_succ, List.range']) | with_reducible refine pwp_block ?_ | with_reducible refine pwp_skip ?_ | with_reducible refine pwp_ret ?_ | with_reducible refine pwp_exit ?_ | (with_reducible refine cond_t ?_ ?_; (focus (simp [*]; done))) | (with_reducible refine cond_f ?_ ?_; (focus (simp [*]; done))) | with_reducible refine then_n ?_ | with_reducible refine then_r ?_ | with_reducible refine then_e ?_ | with_reducible refine then_g ?_ | with_reducible refine inB_n ?_ | with_reducible refine inB_r ?_ | with_reducible refine inB_e ?_ | with_reducible refine inB_o rfl ?_ | with_reducible refine inB_g ?_ | with_reducible refine Leads.go (by assumption) ?_)
      refine PCalls.mono (hL _) ?_
      intro d3 H3 hd3
      rw [hd3.1, hd3.2]
      clear hd3
      try simp [*]
      try simp [*]
      repeat (first | with_reducible refine seq_k fun K hK => ?_ | (with_reducible refine region_k fun K hK => ?_; simp [*]) | (with_reducible refine region_drawT_k mixedO (by decide +kernel) fun K hK => ?_; simp [*]) | (with_reducible refine region_tame_a mixedO (by decide +kernel) fun K hK => ?_; simp [*, Low, isLoadB, isTameB, List.range_succ, List.range']) | with_reducible refine pwp_block ?_ | with_reducible refine pwp_skip ?_ | with_reducible refine pwp_ret ?_ | with_reducible refine pwp_exit ?_ | (with_reducible refine cond_t ?_ ?_; (focus (simp [*]; done))) | (with_reducible refine cond_f ?_ ?_; (focus (simp [*]; done))) | with_reducible refine then_n ?_ | with_reducible refine then_r ?_ | with_reducible refine then_e ?_ | with_reducible refine then_g ?_ | with_reducible refine inB_n ?_ | with_reducible refine inB_r ?_ | with_reducible refine inB_e ?_ | with_reducible refine inB_o rfl ?_ | with_reducible refine inB_g ?_ | with_reducible refine Leads.go (by assumption) ?_)
      refine PCalls.mono (hM _) ?_
      intro d3 H3 hd3
      rw [hd3.1, hd3.2]
      clear hd3
      try simp [*]
      try simp [*]
      repeat (first | with_reducible refine seq_k fun K hK => ?_ | (with_reducible refine region_k fun K hK => ?_; simp [*]) | (with_reducible refine region_drawT_k mixedO (by decide +kernel) fun K hK => ?_; simp [*]) | (with_reducible refine region_tame_a mixedO (by decide +kernel) fun K hK => ?_; simp [*, Low, isLoadB, isTameB, List.range_succ, List.range']) | with_reducible refine pwp_block ?_ | with_reducible refine pwp_skip ?_ | with_reducible refine pwp_ret ?_ | with_reducible refine pwp_exit ?_ | (with_reducible refine cond_t ?_ ?_; (focus (simp [*]; done))) | (with_reducible refine cond_f ?_ ?_; (focus (simp [*]; done))) | with_reducible refine then_n ?_ | with_reducible refine then_r ?_ | with_reducible refine then_e ?_ | with_reducible refine then_g ?_ | with_reducible refine inB_n ?_ | with_reducible refine inB_r ?_ | with_reducible refine inB_e ?_ | with_reducible refine inB_o rfl ?_ | with_reducible refine inB_g ?_ | with_reducible refine Leads.go (by assumption) ?_)
      simp [*]
    · simp only [readD] at hR hS
      repeat (first | with_reducible refine seq_k fun K hK => ?_ | (with_reducible refine region_k fun K hK => ?_; simp [*]) | (with_reducible refine region_drawT_k mixedO (by decide +kernel) fun K hK => ?_; simp [*]) | (with_reducible refine region_tame_a mixedO (by decide +kernel) fun K hK => ?_; simp [*, Low, isLoadB, isTameB, List.range_succ, List.range']) | with_reducible refine pwp_block ?_ | with_reducible refine pwp_skip ?_ | with_reducible refine pwp_ret ?_ | with_reducible refine pwp_exit ?_ | (with_reducible refine cond_t ?_ ?_; (focus (simp [*]; done))) | (with_reducible refine cond_f ?_ ?_; (focus (simp [*]; done))) | with_reducible refine then_n ?_ | with_reducible refine then_r ?_ | with_reducible refine then_e ?_ | with_reducible refine then_g ?_ | with_reducible refine inB_n ?_ | with_reducible refine inB_r ?_ | with_reducible refine inB_e ?_ | with_reducible refine inB_o rfl ?_ | with_reducible refine inB_g ?_ | with_reducible refine Leads.go (by assumption) ?_)
      refine PCalls.mono (hP _) ?_
      intro d3 H3 hd3
      rw [hd3.1, hd3.2]
      clear hd3
      try simp [*]
      repeat (first | with_reducible refine seq_k fun K hK => ?_ | (with_reducible refine region_k fun K hK => ?_; simp [*]) | (with_reducible refine region_drawT_k mixedO (by decide +kernel) fun K hK => ?_; simp [*]) | (with_reducible refine region_tame_a mixedO (by decide +kernel) fun K hK => ?_; simp [*, Low, isLoadB, isTameB, List.range_succ, List.range']) | with_reducible refine pwp_block ?_ | with_reducible refine pwp_skip ?_ | with_reducible refine pwp_ret ?_ | with_reducible refine pwp_exit ?_ | (with_reducible refine cond_t ?_ ?_; (focus (simp [*]; done))) | (with_reducible refine cond_f ?_ ?_; (focus (simp [*]; done))) | with_reducible refine then_n ?_ | with_reducible refine then_r ?_ | with_reducible refine then_e ?_ | with_reducible refine then_g ?_ | with_reducible refine inB_n ?_ | with_reducible refine inB_r ?_ | with_reducible refine inB_e ?_ | with_reducible refine inB_o rfl ?_ | with_reducible refine inB_g ?_ | with_reducible refine Leads.go (by assumption) ?_)
      refine PCalls.mono (hQ _) ?_
      intro d3 H3 hd3
      rw [hd3.1, hd3.2]
      clear hd3
      try simp [*]
      repeat (first | with_reducible refine seq_k fun K hK => ?_ | (with_reducible refine region_k fun K hK => ?_; simp [*]) | (with_reducible refine region_drawT_k mixedO (by decide +kernel) fun K hK => ?_; simp [*]) | (with_reducible refine region_tame_a mixedO (by decide +kernel) fun K hK => ?_; simp [*, Low, isLoadB, isTameB, List.range_succ, List.range']) | with_reducible refine pwp_block ?_ | with_reducible refine pwp_skip ?_ | with_reducible refine pwp_ret ?_ | with_reducible refine pwp_exit ?_ | (with_reducible refine cond_t ?_ ?_; (focus (simp [*]; done))) | (with_reducible refine cond_f ?_ ?_; (focus (simp [*]; done))) | with_reducible refine then_n ?_ | with_reducible refine then_r ?_ | with_reducible refine then_e ?_ | with_reducible refine then_g ?_ | with_reducible refine inB_n ?_ | with_reducible refine inB_r ?_ | with_reducible refine inB_e ?_ | with_reducible refine inB_o rfl ?_ | with_reducible refine inB_g ?_ | with_reducible refine Leads.go (by assumption) ?_)
      refine PCalls.mono (hR _) ?_
      intro d3 H3 hd3
      rw [hd3.1, hd3.2]
      clear hd3
      try simp [*]
      repeat (first | with_reducible refine seq_k fun K hK => ?_ | (with_reducible refine region_k fun K hK => ?_; simp [*]) | (with_reducible refine region_drawT_k mixedO (by decide +kernel) fun K hK => ?_; simp [*]) | (with_reducible refine region_tame_a mixedO (by decide +kernel) fun K hK => ?_; simp [*, Low, isLoadB, isTameB, List.range_succ, List.range']) | with_reducible refine pwp_block ?_ | with_reducible refine pwp_skip ?_ | with_reducible refine pwp_ret ?_ | with_reducible refine pwp_exit ?_ | (with_reducible refine cond_t ?_ ?_; (focus (simp [*]; done))) | (with_reducible refine cond_f ?_ ?_; (focus (simp [*]; done))) | with_reducible refine then_n ?_ | with_reducible refine then_r ?_ | with_reducible refine then_e ?_ | with_reducible refine then_g ?_ | with_reducible refine inB_n ?_ | with_reducible refine inB_r ?_ | with_reducible refine inB_e ?_ | with_reducible refine inB_o rfl ?_ | with_reducible refine inB_g ?_ | with_reducible refine Leads.go (by assumption) ?_)
      refine PCalls.mono (hS _) ?_
      intro d3 H3 hd3
      rw [hd3.1, hd3.2]
      clear hd3
      try simp [*]
      repeat (first | with_reducible refine seq_k fun K hK => ?_ | (with_reducible refine region_k fun K hK => ?_; simp [*]) | (with_reducible refine region_drawT_k mixedO (by decide +kernel) fun K hK => ?_; simp [*]) | (with_reducible refine region_tame_a mixedO (by decide +kernel) fun K hK => ?_; simp [*, Low, isLoadB, isTameB, List.range_succ, List.range']) | with_reducible refine pwp_block ?_ | with_reducible refine pwp_skip ?_ | with_reducible refine pwp_ret ?_ | with_reducible refine pwp_exit ?_ | (with_reducible refine cond_t ?_ ?_; (focus (simp [*]; done))) | (with_reducible refine cond_f ?_ ?_; (focus (simp [*]; done))) | with_reducible refine then_n ?_ | with_reducible refine then_r ?_ | with_reducible refine then_e ?_ | with_reducible refine then_g ?_ | with_reducible refine inB_n ?_ | with_reducible refine inB_r ?_ | with_reducible refine inB_e ?_ | with_reducible refine inB_o rfl ?_ | with_reducible refine inB_g ?_ | with_reducible refine Leads.go (by assumption) ?_)
      refine PCalls.mono (hO _) ?_
      intro d3 H3 hd3
      rw [hd3.1, hd3.2]
      clear hd3
      try simp [*]
      repeat (first | with_reducible refine seq_k fun K hK => ?_ | (with_reducible refine region_k fun K hK => ?_; simp [*]) | (with_reducible refine region_drawT_k mixedO (by decide +kernel) fun K hK => ?_; simp [*]) | (with_reducible refine region_tame_a mixedO (by decide +kernel) fun K hK => ?_; simp [*, Low, isLoadB, isTameB, List.range_succ, List.range']) | with_reducible refine pwp_block ?_ | with_reducible refine pwp_skip ?_ | with_reducible refine pwp_ret ?_ | with_reducible refine pwp_exit ?_ | (with_reducible refine cond_t ?_ ?_; (focus (simp [*]; done))) | (with_reducible refine cond_f ?_ ?_; (focus (simp [*]; done))) | with_reducible refine then_n ?_ | with_reducible refine then_r ?_ | with_reducible refine then_e ?_ | with_reducible refine then_g ?_ | with_reducible refine inB_n ?_ | with_reducible refine inB_r ?_ | with_reducible refine inB_e ?_ | with_reducible refine inB_o rfl ?_ | with_reducible refine inB_g ?_ | with_reducible refine Leads.go (by assumption) ?_)
      refine PCalls.mono (hN _) ?_
      intro d3 H3 hd3
      rw [hd3.1, hd3.2]
      clear hd3
      try simp [*]
      refine PCalls.mono (hW _) ?_
      intro d3 H3 hd3
      rw [hd3.1, hd3.2]
      clear hd3
      try simp [*]
      try simp [*]
      repeat (first | with_reducible refine seq_k fun K hK => ?_ | (with_reducible refine region_k fun K hK => ?_; simp [*]) | (with_reducible refine region_drawT_k mixedO (by decide +kernel) fun K hK => ?_; simp [*]) | (with_reducible refine region_tame_a mixedO (by decide +kernel) fun K hK => ?_; simp [*, Low, isLoadB, isTameB, List.range_succ, List.range']) | with_reducible refine pwp_block ?_ | with_reducible refine pwp_skip ?_ | with_reducible refine pwp_ret ?_ | with_reducible refine pwp_exit ?_ | (with_reducible refine cond_t ?_ ?_; (focus (simp [*]; done))) | (with_reducible refine cond_f ?_ ?_; (focus (simp [*]; done))) | with_reducible refine then_n ?_ | with_reducible refine then_r ?_ | with_reducible refine then_e ?_ | with_reducible refine then_g ?_ | with_reducible refine inB_n ?_ | with_reducible refine inB_r ?_ | with_reducible refine inB_e ?_ | with_reducible refine inB_o rfl ?_ | with_reducible refine inB_g ?_ | with_reducible refine Leads.go (by assumption) ?_)
      refine PCalls.mono (hX _) ?_
      intro d3 H3 hd3
      rw [hd3.1, hd3.2]
      clear hd3
      try simp [*]
      try simp [*]
      repeat (first | with_reducible refine seq_k fun K hK => ?_ | (with_reducible refine region_k fun K hK => ?_; simp [*]) | (with_reducible refine region_drawT_k mixedO (by decide +kernel) fun K hK => ?_; simp [*]) | (with_reducible refine region_tame_a mixedO (by decide +kernel) fun K hK => ?_; simp [*, Low, isLoadB, isTameB, List.range_succ, List.range']) | with_reducible refine pwp_block ?_ | with_reducible refine pwp_skip ?_ | with_reducible refine pwp_ret ?_ | with_reducible refine pwp_exit ?_ | (with_reducible refine cond_t ?_ ?_; (focus (simp [*]; done))) | (with_reducible refine cond_f ?_ ?_; (focus (simp [*]; done))) | with_reducible refine then_n ?_ | with_reducible refine then_r ?_ | with_reducible refine then_e ?_ | with_reducible refine then_g ?_ | with_reducible refine inB_n ?_ | with_reducible refine inB_r ?_ | with_reducible refine inB_e ?_ | with_reducible refine inB_o rfl ?_ | with_reducible refine inB_g ?_ | with_reducible refine Leads.go (by assumption) ?_)
      refine PCalls.mono (hL _) ?_
      intro d3 H3 hd3
      rw [hd3.1, hd3.2]
      clear hd3
      try simp [*]
      try simp [*]
      repeat (first | with_reducible refine seq_k fun K hK => ?_ | (with_reducible refine region_k fun K hK => ?_; simp [*]) | (with_reducible refine region_drawT_k mixedO (by decide +kernel) fun K hK => ?_; simp [*]) | (with_reducible refine region_tame_a mixedO (by decide +kernel) fun K hK => ?_; simp [*, Low, isLoadB, isTameB, List.range_succ, List.range']) | with_reducible refine pwp_block ?_ | with_reducible refine pwp_skip ?_ | with_reducible refine pwp_ret ?_ | with_reducible refine pwp_exit ?_ | (with_reducible refine cond_t ?_ ?_; (focus (simp [*]; done))) | (with_reducible refine cond_f ?_ ?_; (focus (simp [*]; done))) | with_reducible refine then_n ?_ | with_reducible refine then_r ?_ | with_reducible refine then_e ?_ | with_reducible refine then_g ?_ | with_reducible refine inB_n ?_ | with_reducible refine inB_r ?_ | with_reducible refine inB_e ?_ | with_reducible refine inB_o rfl ?_ | with_reducible refine inB_g ?_ | with_reducible refine Leads.go (by assumption) ?_)
      refine PCalls.mono (hM _) ?_
      intro d3 H3 hd3
      rw [hd3.1, hd3.2]
      clear hd3
      try simp [*]
      try simp [*]
      repeat (first | with_reducible refine seq_k fun K hK => ?_ | (with_reducible refine region_k fun K hK => ?_; simp [*]) | (with_reducible refine region_drawT_k mixedO (by decide +kernel) fun K hK => ?_; simp [*]) | (with_reducible refine region_tame_a mixedO (by decide +kernel) fun K hK => ?_; simp [*, Low, isLoadB, isTameB, List.range_succ, List.range']) | with_reducible refine pwp_block ?_ | with_reducible refine pwp_skip ?_ | with_reducible refine pwp_ret ?_ | with_reducible refine pwp_exit ?_ | (with_reducible refine cond_t ?_ ?_; (focus (simp [*]; done))) | (with_reducible refine cond_f ?_ ?_; (focus (simp [*]; done))) | with_reducible refine then_n ?_ | with_reducible refine then_r ?_ | with_reducible refine then_e ?_ | with_reducible refine then_g ?_ | with_reducible refine inB_n ?_ | with_reducible refine inB_r ?_ | with_reducible refine inB_e ?_ | with_reducible refine inB_o rfl ?_ | with_reducible refine inB_g ?_ | with_reducible refine Leads.go (by assumption) ?_)
      simp [*]
  · simp only [putD, Option.isSome] at hP hQ hN
    have hE2 := eToStr_by b2
    have hE3 : (5 = 5 ∨ b2.map byD = []) = True := eq_true (.inl rfl)
    rcases r2 with _ | s2
    · simp only [readD] at hR hS
      repeat (first | with_reducible refine seq_k fun K hK => ?_ | (with_reducible refine region_k fun K hK => ?_; simp [*]) | (with_reducible refine region_drawT_k mixedO (by decide +kernel) fun K hK => ?_; simp [*]) | (with_reducible refine region_tame_a mixedO (by decide +kernel) fun K hK => ?_; simp [*, Low, isLoadB, isTameB, List.range_succ, List.range']) | with_reducible refine pwp_block ?_ | with_reducible refine pwp_skip ?_ | with_reducible refine pwp_ret ?_ | with_reducible refine pwp_exit ?_ | (with_reducible refine cond_t ?_ ?_; (focus (simp [*]; done))) | (with_reducible refine cond_f ?_ ?_; (focus (simp [*]; done))) | with_reducible refine then_n ?_ | with_reducible refine then_r ?_ | with_reducible refine then_e ?_ | with_reducible refine then_g ?_ | with_reducible refine inB_n ?_ | with_reducible refine inB_r ?_ | with_reducible refine inB_e ?_ | with_reducible refine inB_o rfl ?_ | with_reducible refine inB_g ?_ | with_reducible refine Leads.go (by assumption) ?_)
      refine PCalls.mono (hP _) ?_
      intro d3 H3 hd3
      rw [hd3.1, hd3.2]
      clear hd3
      try simp [*]
      repeat (first | with_reducible refine seq_k fun K hK => ?_ | (with_reducible refine region_k fun K hK => ?_; simp [*]) | (with_reducible refine region_drawT_k mixedO (by decide +kernel) fun K hK => ?_; simp [*]) | (with_reducible refine region_tame_a mixedO (by decide +kernel) fun K hK => ?_; simp [*, Low, isLoadB, isTameB, List.range_succ, List.range']) | with_reducible refine pwp_block ?_ | with_reducible refine pwp_skip ?_ | with_reducible refine pwp_ret ?_ | with_reducible refine pwp_exit ?_ | (with_reducible refine cond_t ?_ ?_; (focus (simp [*]; done))) | (with_reducible refine cond_f ?_ ?_; (focus (simp [*]; done))) | with_reducible refine then_n ?_ | with_reducible refine then_r ?_ | with_reducible refine then_e ?_ | with_reducible refine then_g ?_ | with_reducible refine inB_n ?_ | with_reducible refine inB_r ?_ | with_reducible refine inB_e ?_ | with_reducible refine inB_o rfl ?_ | with_reducible refine inB_g ?_ | with_reducible refine Leads.go (by assumption) ?_)
      refine PCalls.mono (hQ _) ?_
      intro d3 H3 hd3
      rw [hd3.1, hd3.2]
      clear hd3
      try simp [*]
      repeat (first | with_reducible refine seq_k fun K hK => ?_ | (with_reducible refine region_k fun K hK => ?_; simp [*]) | (with_reducible refine region_drawT_k mixedO (by decide +kernel) fun K hK => ?_; simp [*]) | (with_reducible refine region_tame_a mixedO (by decide +kernel) fun K hK => ?_; simp [*, Low, isLoadB, isTameB, List.range_succ, List.range']) | with_reducible refine pwp_block ?_ | with_reducible refine pwp_skip ?_ | with_reducible refine pwp_ret ?_ | with_reducible refine pwp_exit ?_ | (with_reducible refine cond_t ?_ ?_; (focus (simp [*]; done))) | (with_reducible refine cond_f ?_ ?_; (focus (simp [*]; done))) | with_reducible refine then_n ?_ | with_reducible refine then_r ?_ | with_reducible refine then_e ?_ | with_reducible refine then_g ?_ | with_reducible refine inB_n ?_ | with_reducible refine inB_r ?_ | with_reducible refine inB_e ?_ | with_reducible refine inB_o rfl ?_ | with_reducible refine inB_g ?_ | with_reducible refine Leads.go (by assumption) ?_)
      refine PCalls.mono (hR _) ?_
      intro d3 H3 hd3
      rw [hd3.1, hd3.2]
      clear hd3
      try simp [*]
      repeat (first | with_reducible refine seq_k fun K hK => ?_ | (with_reducible refine region_k fun K hK => ?_; simp [*]) | (with_reducible refine region_drawT_k mixedO (by decide +kernel) fun K hK => ?_; simp [*]) | (with_reducible refine region_tame_a mixedO (by decide +kernel) fun K hK => ?_; simp [*, Low, isLoadB, isTameB, List.range_succ, List.range']) | with_reducible refine pwp_block ?_ | with_reducible refine pwp_skip ?_ | with_reducible refine pwp_ret ?_ | with_reducible refine pwp_exit ?_ | (with_reducible refine cond_t ?_ ?_; (focus (simp [*]; done))) | (with_reducible refine cond_f ?_ ?_; (focus (simp [*]; done))) | with_reducible refine then_n ?_ | with_reducible refine then_r ?_ | with_reducible refine then_e ?_ | with_reducible refine then_g ?_ | with_reducible refine inB_n ?_ | with_reducible refine inB_r ?_ | with_reducible refine inB_e ?_ | with_reducible refine inB_o rfl ?_ | with_reducible refine inB_g ?_ | with_reducible refine Leads.go (by assumption) ?_)
      refine PCalls.mono (hS _) ?_
      intro d3 H3 hd3
      rw [hd3.1, hd3.2]
      clear hd3
      try simp [*]
      repeat (first | with_reducible refine seq_k fun K hK => ?_ | (with_reducible refine region_k fun K hK => ?_; simp [*]) | (with_reducible refine region_drawT_k mixedO (by decide +kernel) fun K hK => ?_; simp [*]) | (with_reducible refine region_tame_a mixedO (by decide +kernel) fun K hK => ?_; simp [*, Low, isLoadB, isTameB, List.range_succ, List.range']) | with_reducible refine pwp_block ?_ | with_reducible refine pwp_skip ?_ | with_reducible refine pwp_ret ?_ | with_reducible refine pwp_exit ?_ | (with_reducible refine cond_t ?_ ?_; (focus (simp [*]; done))) | (with_reducible refine cond_f ?_ ?_; (focus (simp [*]; done))) | with_reducible refine then_n ?_ | with_reducible refine then_r ?_ | with_reducible refine then_e ?_ | with_reducible refine then_g ?_ | with_reducible refine inB_n ?_ | with_reducible refine inB_r ?_ | with_reducible refine inB_e ?_ | with_reducible refine inB_o rfl ?_ | with_reducible refine inB_g ?_ | with_reducible refine Leads.go (by assumption) ?_)
      refine PCalls.mono (hO _) ?_
      intro d3 H3 hd3
      rw [hd3.1, hd3.2]
      clear hd3
      try simp [*]
      repeat (first | with_reducible refine seq_k fun K hK => ?_ | (with_reducible refine region_k fun K hK => ?_; simp [*]) | (with_reducible refine region_drawT_k mixedO (by decide +kernel) fun K hK => ?_; simp [*]) | (with_reducible refine region_tame_a mixedO (by decide +kernel) fun K hK => ?_; simp [*, Low, isLoadB, isTameB, List.range_succ, List.range']) | with_reducible refine pwp_block ?_ | with_reducible refine pwp_skip ?_ | with_reducible refine pwp_ret ?_ | with_reducible refine pwp_exit ?_ | (with_reducible refine cond_t ?_ ?_; (focus (simp [*]; done))) | (with_reducible refine cond_f ?_ ?_; (focus (simp [*]; done))) | with_reducible refine then_n ?_ | with_reducible refine then_r ?_ | with_reducible refine then_e ?_ | with_reducible refine then_g ?_ | with_reducible refine inB_n ?_ | with_reducible refine inB_r ?_ | with_reducible refine inB_e ?_ | with_reducible refine inB_o rfl ?_ | with_reducible refine inB_g ?_ | with_reducible refine Leads.go (by assumption) ?_)
      refine PCalls.mono (hN _) ?_
      intro d3 H3 hd3
      rw [hd3.1, hd3.2]
      clear hd3
      try simp [*]
      refine PCalls.mono (hW _) ?_
      intro d3 H3 hd3
      rw [hd3.1, hd3.2]
      clear hd3
      try simp [*]
      try simp [*]
      repeat (first | with_reducible refine seq_k fun K hK => ?_ | (with_reducible refine region_k fun K hK => ?_; simp [*]) | (with_reducible refine region_drawT_k mixedO (by decide +kernel) fun K hK => ?_; simp [*]) | (with_reducible refine region_tame_a mixedO (by decide +kernel) fun K hK => ?_; simp [*, Low, isLoadB, isTameB, List.range_succ, List.range']) | with_reducible refine pwp_block ?_ | with_reducible refine pwp_skip ?_ | with_reducible refine pwp_ret ?_ | with_reducible refine pwp_exit ?_ | (with_reducible refine cond_t ?_ ?_; (focus (simp [*]; done))) | (with_reducible refine cond_f ?_ ?_; (focus (simp [*]; done))) | with_reducible refine then_n ?_ | with_reducible refine then_r ?_ | with_reducible refine then_e ?_ | with_reducible refine then_g ?_ | with_reducible refine inB_n ?_ | with_reducible refine inB_r ?_ | with_reducible refine inB_e ?_ | with_reducible refine inB_o rfl ?_ | with_reducible refine inB_g ?_ | with_reducible refine Leads.go (by assumption) ?_)
      refine PCalls.mono (hX _) ?_
      intro d3 H3 hd3
      rw [hd3.1, hd3.2]
      clear hd3
      try simp [*]
      try simp [*]
      repeat (first | with_reducible refine seq_k fun K hK => ?_ | (with_reducible refine region_k fun K hK => ?_; simp [*]) | (with_reducible refine region_drawT_k mixedO (by decide +kernel) fun K hK => ?_; simp [*]) | (with_reducible refine region_tame_a mixedO (by decide +kernel) fun K hK => ?_; simp [*, Low, isLoadB, isTameB, List.range_succ, List.range']) | with_reducible refine pwp_block ?_ | with_reducible refine pwp_skip ?_ | with_reducible refine pwp_ret ?_ | with_reducible refine pwp_exit ?_ | (with_reducible refine cond_t ?_ ?_; (focus (simp [*]; done))) | (with_reducible refine cond_f ?_ ?_; (focus (simp [*]; done))) | with_reducible refine then_n ?_ | with_reducible refine then_r ?_ | with_reducible refine then_e ?_ | with_reducible refine then_g ?_ | with_reducible refine inB_n ?_ | with_reducible refine inB_r ?_ | with_reducible refine inB_e ?_ | with_reducible refine inB_o rfl ?_ | with_reducible refine inB_g ?_ | with_reducible refine Leads.go (by assumption) ?_)
      refine PCalls.mono (hL _) ?_
      intro d3 H3 hd3
      rw [hd3.1, hd3.2]
      clear hd3
      try simp [*]
      try simp [*]
      repeat (first | with_reducible refine seq_k fun K hK => ?_ | (with_reducible refine region_k fun K hK => ?_; simp [*]) | (with_reducible refine region_drawT_k mixedO (by decide +kernel) fun K hK => ?_; simp [*]) | (with_reducible refine region_tame_a mixedO (by decide +kernel) fun K hK => ?_; simp [*, Low, isLoadB, isTameB, List.range_succ, List.range']) | with_reducible refine pwp_block ?_ | with_reducible refine pwp_skip ?_ | with_reducible refine pwp_ret ?_ | with_reducible refine pwp_exit ?_ | (with_reducible refine cond_t ?_ ?_; (focus (simp [*]; done))) | (with_reducible refine cond_f ?_ ?_; (focus (simp [*]; done))) | with_reducible refine then_n ?_ | with_reducible refine then_r ?_ | with_reducible refine then_e ?_ | with_reducible refine then_g ?_ | with_reducible refine inB_n ?_ | with_reducible refine inB_r ?_ | with_reducible refine inB_e ?_ | with_reducible refine inB_o rfl ?_ | with_reducible refine inB_g ?_ | with_reducible refine Leads.go (by assumption) ?_)
      refine PCalls.mono (hM _) ?_
      intro d3 H3 hd3
      rw [hd3.1, hd3.2]
      clear hd3
      try simp [*]
      try simp [*]
      repeat (first | with_reducible refine seq_k fun K hK => ?_ | (with_reducible refine region_k fun K hK => ?_; simp [*]) | (with_reducible refine region_drawT_k mixedO (by decide +kernel) fun K hK => ?_; simp [*]) | (with_reducible refine region_tame_a mixedO (by decide +kernel) fun K hK => ?_; simp [*, Low, isLoadB, isTameB, List.range_succ, List.range']) | with_reducible refine pwp_block ?_ | with_reducible refine pwp_skip ?_ | with_reducible refine pwp_ret ?_ | with_reducible refine pwp_exit ?_ | (with_reducible refine cond_t ?_ ?_; (focus (simp [*]; done))) | (with_reducible refine cond_f ?_ ?_; (focus (simp [*]; done))) | with_reducible refine then_n ?_ | with_reducible refine then_r ?_ | with_reducible refine then_e ?_ | with_reducible refine then_g ?_ | with_reducible refine inB_n ?_ | with_reducible refine inB_r ?_ | with_reducible refine inB_e ?_ | with_reducible refine inB_o rfl ?_ | with_reducible refine inB_g ?_ | with_reducible refine Leads.go (by assumption) ?_)
      simp [*]
    · simp only [readD] at hR hS
      repeat (first | with_reducible refine seq_k fun K hK => ?_ | (with_reducible refine region_k fun K hK => ?_; simp [*]) | (with_reducible refine region_drawT_k mixedO (by decide +kernel) fun K hK => ?_; simp [*]) | (with_reducible refine region_tame_a mixedO (by decide +kernel) fun K hK => ?_; simp [*, Low, isLoadB, isTameB, List.range_succ, List.range']) | with_reducible refine pwp_block ?_ | with_reducible refine pwp_skip ?_ | with_reducible refine pwp_ret ?_ | with_reducible refine pwp_exit ?_ | (with_reducible refine cond_t ?_ ?_; (focus (simp [*]; done))) | (with_reducible refine cond_f ?_ ?_; (focus (simp [*]; done))) | with_reducible refine then_n ?_ | with_reducible refine then_r ?_ | with_reducible refine then_e ?_ | with_reducible refine then_g ?_ | with_reducible refine inB_n ?_ | with_reducible refine inB_r ?_ | with_reducible refine inB_e ?_ | with_reducible refine inB_o rfl ?_ | with_reducible refine inB_g ?_ | with_reducible refine Leads.go (by assumption) ?_)
      refine PCalls.mono (hP _) ?_
      intro d3 H3 hd3
      rw [hd3.1, hd3.2]
      clear hd3
      try simp [*]
      repeat (first | with_reducible refine seq_k fun K hK => ?_ | (with_reducible refine region_k fun K hK => ?_; simp [*]) | (with_reducible refine region_drawT_k mixedO (by decide +kernel) fun K hK => ?_; simp [*]) | (with_reducible refine region_tame_a mixedO (by decide +kernel) fun K hK => ?_; simp [*, Low, isLoadB, isTameB, List.range_succ, List.range']) | with_reducible refine pwp_block ?_ | with_reducible refine pwp_skip ?_ | with_reducible refine pwp_ret ?_ | with_reducible refine pwp_exit ?_ | (with_reducible refine cond_t ?_ ?_; (focus (simp [*]; done))) | (with_reducible refine cond_f ?_ ?_; (focus (simp [*]; done))) | with_reducible refine then_n ?_ | with_reducible refine then_r ?_ | with_reducible refine then_e ?_ | with_reducible refine then_g ?_ | with_reducible refine inB_n ?_ | with_reducible refine inB_r ?_ | with_reducible refine inB_e ?_ | with_reducible refine inB_o rfl ?_ | with_reducible refine inB_g ?_ | with_reducible refine Leads.go (by assumption) ?_)
      refine PCalls.mono (hQ _) ?_
      intro d3 H3 hd3
      rw [hd3.1, hd3.2]
      clear hd3
      try simp [*]
      repeat (first | with_reducible refine seq_k fun K hK => ?_ | (with_reducible refine region_k fun K hK => ?_; simp [*]) | (with_reducible refine region_drawT_k mixedO (by decide +kernel) fun K hK => ?_; simp [*]) | (with_reducible refine region_tame_a mixedO (by decide +kernel) fun K hK => ?_; simp [*, Low, isLoadB, isTameB, List.range_succ, List.range']) | with_reducible refine pwp_block ?_ | with_reducible refine pwp_skip ?_ | with_reducible refine pwp_ret ?_ | with_reducible refine pwp_exit ?_ | (with_reducible refine cond_t ?_ ?_; (focus (simp [*]; done))) | (with_reducible refine cond_f ?_ ?_; (focus (simp [*]; done))) | with_reducible refine then_n ?_ | with_reducible refine then_r ?_ | with_reducible refine then_e ?_ | with_reducible refine then_g ?_ | with_reducible refine inB_n ?_ | with_reducible refine inB_r ?_ | with_reducible refine inB_e ?_ | with_reducible refine inB_o rfl ?_ | with_reducible refine inB_g ?_ | with_reducible refine Leads.go (by assumption) ?_)
      refine PCalls.mono (hR _) ?_
      intro d3 H3 hd3
      rw [hd3.1, hd3.2]
      clear hd3
      try simp [*]
      repeat (first | with_reducible refine seq_k fun K hK => ?_ | (with_reducible refine region_k fun K hK => ?_; simp [*]) | (with_reducible refine region_drawT_k mixedO (by decide +kernel) fun K hK => ?_; simp [*]) | (with_reducible refine region_tame_a mixedO (by decide +kernel) fun K hK => ?_; simp [*, Low, isLoadB, isTameB, List.range_succ, List.range']) | with_reducible refine pwp_block ?_ | with_reducible refine pwp_skip ?_ | with_reducible refine pwp_ret ?_ | with_reducible refine pwp_exit ?_ | (with_reducible refine cond_t ?_ ?_; (focus (simp [*]; done))) | (with_reducible refine cond_f ?_ ?_; (focus (simp [*]; done))) | with_reducible refine then_n ?_ | with_reducible refine then_r ?_ | with_reducible refine then_e ?_ | with_reducible refine then_g ?_ | with_reducible refine inB_n ?_ | with_reducible refine inB_r ?_ | with_reducible refine inB_e ?_ | with_reducible refine inB_o rfl ?_ | with_reducible refine inB_g ?_ | with_reducible refine Leads.go (by assumption) ?_)
      refine PCalls.mono (hS _) ?_
      intro d3 H3 hd3
      rw [hd3.1, hd3.2]
      clear hd3
      try simp [*]
      repeat (first | with_reducible refine seq_k fun K hK => ?_ | (with_reducible refine region_k fun K hK => ?_; simp [*]) | (with_reducible refine region_drawT_k mixedO (by decide +kernel) fun K hK => ?_; simp [*]) | (with_reducible refine region_tame_a mixedO (by decide +kernel) fun K hK => ?_; simp [*, Low, isLoadB, isTameB, List.range_succ, List.range']) | with_reducible refine pwp_block ?_ | with_reducible refine pwp_skip ?_ | with_reducible refine pwp_ret ?_ | with_reducible refine pwp_exit ?_ | (with_reducible refine cond_t ?_ ?_; (focus (simp [*]; done))) | (with_reducible refine cond_f ?_ ?_; (focus (simp [*]; done))) | with_reducible refine then_n ?_ | with_reducible refine then_r ?_ | with_reducible refine then_e ?_ | with_reducible refine then_g ?_ | with_reducible refine inB_n ?_ | with_reducible refine inB_r ?_ | with_reducible refine inB_e ?_ | with_reducible refine inB_o rfl ?_ | with_reducible refine inB_g ?_ | with_reducible refine Leads.go (by assumption) ?_)
      refine PCalls.mono (hO _) ?_
      intro d3 H3 hd3
      rw [hd3.1, hd3.2]
      clear hd3
      try simp [*]
      repeat (first | with_reducible refine seq_k fun K hK => ?_ | (with_reducible refine region_k fun K hK => ?_; simp [*]) | (with_reducible refine region_drawT_k mixedO (by decide +kernel) fun K hK => ?_; simp [*]) | (with_reducible refine region_tame_a mixedO (by decide +kernel) fun K hK => ?_; simp [*, Low, isLoadB, isTameB, List.range_succ, List.range']) | with_reducible refine pwp_block ?_ | with_reducible refine pwp_skip ?_ | with_reducible refine pwp_ret ?_ | with_reducible refine pwp_exit ?_ | (with_reducible refine cond_t ?_ ?_; (focus (simp [*]; done))) | (with_reducible refine cond_f ?_ ?_; (focus (simp [*]; done))) | with_reducible refine then_n ?_ | with_reducible refine then_r ?_ | with_reducible refine then_e ?_ | with_reducible refine then_g ?_ | with_reducible refine inB_n ?_ | with_reducible refine inB_r ?_ | with_reducible refine inB_e ?_ | with_reducible refine inB_o rfl ?_ | with_reducible refine inB_g ?_ | with_reducible refine Leads.go (by assumption) ?_)
      refine PCalls.mono (hN _) ?_
      intro d3 H3 hd3
      rw [hd3.1, hd3.2]
      clear hd3
      try simp [*]
      refine PCalls.mono (hW _) ?_
      intro d3 H3 hd3
      rw [hd3.1, hd3.2]
      clear hd3
      try simp [*]
      try simp [*]
      repeat (first | with_reducible refine seq_k fun K hK => ?_ | (with_reducible refine region_k fun K hK => ?_; simp [*]) | (with_reducible refine region_drawT_k mixedO (by decide +kernel) fun K hK => ?_; simp [*]) | (with_reducible refine region_tame_a mixedO (by decide +kernel) fun K hK => ?_; simp [*, Low, isLoadB, isTameB, List.range_succ, List.range']) | with_reducible refine pwp_block ?_ | with_reducible refine pwp_skip ?_ | with_reducible refine pwp_ret ?_ | with_reducible refine pwp_exit ?_ | (with_reducible refine cond_t ?_ ?_; (focus (simp [*]; done))) | (with_reducible refine cond_f ?_ ?_; (focus (simp [*]; done))) | with_reducible refine then_n ?_ | with_reducible refine then_r ?_ | with_reducible refine then_e ?_ | with_reducible refine then_g ?_ | with_reducible refine inB_n ?_ | with_reducible refine inB_r ?_ | with_reducible refine inB_e ?_ | with_reducible refine inB_o rfl ?_ | with_reducible refine inB_g ?_ | with_reducible refine Leads.go (by assumption) ?_)
      refine PCalls.mono (hX _) ?_
      intro d3 H3 hd3
      rw [hd3.1, hd3.2]
      clear hd3
      try simp [*]
      try simp [*]
      repeat (first | with_reducible refine seq_k fun K hK => ?_ | (with_reducible refine region_k fun K hK => ?_; simp [*]) | (with_reducible refine region_drawT_k mixedO (by decide +kernel) fun K hK => ?_; simp [*]) | (with_reducible refine region_tame_a mixedO (by decide +kernel) fun K hK => ?_; simp [*, Low, isLoadB, isTameB, List.range_succ, List.range']) | with_reducible refine pwp_block ?_ | with_reducible refine pwp_skip ?_ | with_reducible refine pwp_ret ?_ | with_reducible refine pwp_exit ?_ | (with_reducible refine cond_t ?_ ?_; (focus (simp [*]; done))) | (with_reducible refine cond_f ?_ ?_; (focus (simp [*]; done))) | with_reducible refine then_n ?_ | with_reducible refine then_r ?_ | with_reducible refine then_e ?_ | with_reducible refine then_g ?_ | with_reducible refine inB_n ?_ | with_reducible refine inB_r ?_ | with_reducible refine inB_e ?_ | with_reducible refine inB_o rfl ?_ | with_reducible refine inB_g ?_ | with_reducible refine Leads.go (by assumption) ?_)
      refine PCalls.mono (hL _) ?_
      intro d3 H3 hd3
      rw [hd3.1, hd3.2]
      clear hd3
      try simp [*]
      try simp [*]
      repeat (first | with_reducible refine seq_k fun K hK => ?_ | (with_reducible refine region_k fun K hK => ?_; simp [*]) | (with_reducible refine region_drawT_k mixedO (by decide +kernel) fun K hK => ?_; simp [*]) | (with_reducible refine region_tame_a mixedO (by decide +kernel) fun K hK => ?_; simp [*, Low, isLoadB, isTameB, List.range_succ, List.range']) | with_reducible refine pwp_block ?_ | with_reducible refine pwp_skip ?_ | with_reducible refine pwp_ret ?_ | with_reducible refine pwp_exit ?_ | (with_reducible refine cond_t ?_ ?_; (focus (simp [*]; done))) | (with_reducible refine cond_f ?_ ?_; (focus (simp [*]; done))) | with_reducible refine then_n ?_ | with_reducible refine then_r ?_ | with_reducible refine then_e ?_ | with_reducible refine then_g ?_ | with_reducible refine inB_n ?_ | with_reducible refine inB_r ?_ | with_reducible refine inB_e ?_ | with_reducible refine inB_o rfl ?_ | with_reducible refine inB_g ?_ | with_reducible refine Leads.go (by assumption) ?_)
      refine PCalls.mono (hM _) ?_
      intro d3 H3 hd3
      rw [hd3.1, hd3.2]
      clear hd3
      try simp [*]
      try simp [*]
      repeat (first | with_reducible refine seq_k fun K hK => ?_ | (with_reducible refine region_k fun K hK => ?_; simp [*]) | (with_reducible refine region_drawT_k mixedO (by decide +kernel) fun K hK => ?_; simp [*]) | (with_reducible refine region_tame_a mixedO (by decide +kernel) fun K hK => ?_; simp [*, Low, isLoadB, isTameB, List.range_succ, List.range']) | with_reducible refine pwp_block ?_ | with_reducible refine pwp_skip ?_ | with_reducible refine pwp_ret ?_ | with_reducible refine pwp_exit ?_ | (with_reducible refine cond_t ?_ ?_; (focus (simp [*]; done))) | (with_reducible refine cond_f ?_ ?_; (focus (simp [*]; done))) | with_reducible refine then_n ?_ | with_reducible refine then_r ?_ | with_reducible refine then_e ?_ | with_reducible refine then_g ?_ | with_reducible refine inB_n ?_ | with_reducible refine inB_r ?_ | with_reducible refine inB_e ?_ | with_reducible refine inB_o rfl ?_ | with_reducible refine inB_g ?_ | with_reducible refine Leads.go (by assumption) ?_)
      simp [*]
theorem OidTells_walk (a0 : ByteArray) (w0 : a0.size ≤ 140737488351232) (g e : Nat) (bs : By) (he : e = 5 ∨ bs = []) (hb : bs.length ≤ 140737488355328) : PCalls Tryd.prog 4 [.val (.string a0), .slice g e (bs.map byD)] (noHeap noG) fun d _ => d = .val (.bool true) := by
  obtain ⟨l, rfl⟩ : ∃ l : By, a0 = ⟨l.toArray⟩ := ⟨a0.data.toList, by simp⟩
  exact OidTells_local l (by simpa using w0) g e bs he hb
set_option maxHeartbeats 4000000 in
set_option maxRecDepth 100000 in
theorem OidBack_local (l m : By) (hw : l.length ≤ 140737488351232) (hw2 : m.length ≤ 140737488351232) : PCalls Tryd.prog 3 [sD l, sD m] (noHeap noG) fun d _ => d = .val (.bool true) := by
  refine PCalls.of_pwp Tryd.call3 Tryd.func3 rfl (by simp [Tryd.ntmps3]) ?_
  rw [Tryd.ntmps3]
  have w1 := wrapI ((l.length : Int) + (m.length : Int)) (by omega) (by omega)
  by_cases h300 : 300 < (l.length : Int) + (m.length : Int)
  · repeat (first | with_reducible refine seq_k fun K hK => ?_ | (with_reducible refine region_k fun K hK => ?_; simp [*]) | (with_reducible refine region_drawT_k mixedO (by decide +kernel) fun K hK => ?_; simp [*]) | (with_reducible refine region_tame_a mixedO (by decide +kernel) fun K hK => ?_; simp [*, Low, isLoadB, isTameB, List.range_succ, List.range']) | with_reducible refine pwp_block ?_ | with_reducible refine pwp_skip ?_ | with_reducible refine pwp_ret ?_ | with_reducible refine pwp_exit ?_ | (with_reducible refine cond_t ?_ ?_; (focus (simp [*]; done))) | (with_reducible refine cond_f ?_ ?_; (focus (simp [*]; done))) | with_reducible refine then_n ?_ | with_reducible refine then_r ?_ | with_reducible refine then_e ?_ | with_reducible refine then_g ?_ | with_reducible refine inB_n ?_ | with_reducible refine inB_r ?_ | with_reducible refine inB_e ?_ | with_reducible refine inB_o rfl ?_ | with_reducible refine inB_g ?_ | with_reducible refine Leads.go (by assumption) ?_)
    simp [*]
  have hN := Numeric_spec l (by omega)
  have hN2 := Numeric_spec m (by omega)
  have hP := Put_spec l (by omega)
  have hP2 := Put_spec m (by omega)
  have hO := Put_spec [49, 46, 52, 48] (by decide)
  rw [put_bad] at hO
  simp only [putD] at hO
  have hO2 := Numeric_spec [50, 46, 52, 48] (by decide)
  rw [put_good] at hO2
  have hNP : (putM l).isSome = (arcsM l).isSome := by unfold putM; simp
  have hNP2 : (putM m).isSome = (arcsM m).isSome := by unfold putM; simp
  rw [← hNP] at hN
  rw [← hNP2] at hN2
  clear hNP hNP2
  rcases hpl : putM l with _ | b
  · rw [hpl] at hN hP
    simp only [Option.isSome] at hN
    repeat (first | with_reducible refine seq_k fun K hK => ?_ | (with_reducible refine region_k fun K hK => ?_; simp [*]) | (with_reducible refine region_drawT_k mixedO (by decide +kernel) fun K hK => ?_; simp [*]) | (with_reducible refine region_tame_a mixedO (by decide +kernel) fun K hK => ?_; simp [*, Low, isLoadB, isTameB, List.range_succ, List.range']) | with_reducible refine pwp_block ?_ | with_reducible refine pwp_skip ?_ | with_reducible refine pwp_ret ?_ | with_reducible refine pwp_exit ?_ | (with_reducible refine cond_t ?_ ?_; (focus (simp [*]; done))) | (with_reducible refine cond_f ?_ ?_; (focus (simp [*]; done))) | with_reducible refine then_n ?_ | with_reducible refine then_r ?_ | with_reducible refine then_e ?_ | with_reducible refine then_g ?_ | with_reducible refine inB_n ?_ | with_reducible refine inB_r ?_ | with_reducible refine inB_e ?_ | with_reducible refine inB_o rfl ?_ | with_reducible refine inB_g ?_ | with_reducible refine Leads.go (by assumption) ?_)
    refine PCalls.mono (hN _) ?_
    intro d3 H3 hd3
    rw [hd3.1, hd3.2]
    clear hd3
    try simp [*]
    try simp [*]
    repeat (first | with_reducible refine seq_k fun K hK => ?_ | (with_reducible refine region_k fun K hK => ?_; simp [*]) | (with_reducible refine region_drawT_k mixedO (by decide +kernel) fun K hK => ?_; simp [*]) | (with_reducible refine region_tame_a mixedO (by decide +kernel) fun K hK => ?_; simp [*, Low, isLoadB, isTameB, List.range_succ, List.range']) | with_reducible refine pwp_block ?_ | with_reducible refine pwp_skip ?_ | with_reducible refine pwp_ret ?_ | with_reducible refine pwp_exit ?_ | (with_reducible refine cond_t ?_ ?_; (focus (simp [*]; done))) | (with_reducible refine cond_f ?_ ?_; (focus (simp [*]; done))) | with_reducible refine then_n ?_ | with_reducible refine then_r ?_ | with_reducible refine then_e ?_ | with_reducible refine then_g ?_ | with_reducible refine inB_n ?_ | with_reducible refine inB_r ?_ | with_reducible refine inB_e ?_ | with_reducible refine inB_o rfl ?_ | with_reducible refine inB_g ?_ | with_reducible refine Leads.go (by assumption) ?_)
    refine PCalls.mono (hO _) ?_
    intro d3 H3 hd3
    rw [hd3.1, hd3.2]
    clear hd3
    try simp [*]
    repeat (first | with_reducible refine seq_k fun K hK => ?_ | (with_reducible refine region_k fun K hK => ?_; simp [*]) | (with_reducible refine region_drawT_k mixedO (by decide +kernel) fun K hK => ?_; simp [*]) | (with_reducible refine region_tame_a mixedO (by decide +kernel) fun K hK => ?_; simp [*, Low, isLoadB, isTameB, List.range_succ, List.range']) | with_reducible refine pwp_block ?_ | with_reducible refine pwp_skip ?_ | with_reducible refine pwp_ret ?_ | with_reducible refine pwp_exit ?_ | (with_reducible refine cond_t ?_ ?_; (focus (simp [*]; done))) | (with_reducible refine cond_f ?_ ?_; (focus (simp [*]; done))) | with_reducible refine then_n ?_ | with_reducible refine then_r ?_ | with_reducible refine then_e ?_ | with_reducible refine then_g ?_ | with_reducible refine inB_n ?_ | with_reducible refine inB_r ?_ | with_reducible refine inB_e ?_ | with_reducible refine inB_o rfl ?_ | with_reducible refine inB_g ?_ | with_reducible refine Leads.go (by assumption) ?_)
    refine PCalls.mono (hO2 _) ?_
    intro d3 H3 hd3
    rw [hd3.1, hd3.2]
    clear hd3
    try simp [*]
    try simp [*]
    repeat (first | with_reducible refine seq_k fun K hK => ?_ | (with_reducible refine region_k fun K hK => ?_; simp [*]) | (with_reducible refine region_drawT_k mixedO (by decide +kernel) fun K hK => ?_; simp [*]) | (with_reducible refine region_tame_a mixedO (by decide +kernel) fun K hK => ?_; simp [*, Low, isLoadB, isTameB, List.range_succ, List.range']) | with_reducible refine pwp_block ?_ | with_reducible refine pwp_skip ?_ | with_reducible refine pwp_ret ?_ | with_reducible refine pwp_exit ?_ | (with_reducible refine cond_t ?_ ?_; (focus (simp [*]; done))) | (with_reducible refine cond_f ?_ ?_; (focus (simp [*]; done))) | with_reducible refine then_n ?_ | with_reducible refine then_r ?_ | with_reducible refine then_e ?_ | with_reducible refine then_g ?_ | with_reducible refine inB_n ?_ | with_reducible refine inB_r ?_ | with_reducible refine inB_e ?_ | with_reducible refine inB_o rfl ?_ | with_reducible refine inB_g ?_ | with_reducible refine Leads.go (by assumption) ?_)
    simp [*]
  · rcases hpm : putM m with _ | c
    · rw [hpl] at hN hP
      rw [hpm] at hN2 hP2
      simp only [Option.isSome] at hN hN2
      repeat (first | with_reducible refine seq_k fun K hK => ?_ | (with_reducible refine region_k fun K hK => ?_; simp [*]) | (with_reducible refine region_drawT_k mixedO (by decide +kernel) fun K hK => ?_; simp [*]) | (with_reducible refine region_tame_a mixedO (by decide +kernel) fun K hK => ?_; simp [*, Low, isLoadB, isTameB, List.range_succ, List.range']) | with_reducible refine pwp_block ?_ | with_reducible refine pwp_skip ?_ | with_reducible refine pwp_ret ?_ | with_reducible refine pwp_exit ?_ | (with_reducible refine cond_t ?_ ?_; (focus (simp [*]; done))) | (with_reducible refine cond_f ?_ ?_; (focus (simp [*]; done))) | with_reducible refine then_n ?_ | with_reducible refine then_r ?_ | with_reducible refine then_e ?_ | with_reducible refine then_g ?_ | with_reducible refine inB_n ?_ | with_reducible refine inB_r ?_ | with_reducible refine inB_e ?_ | with_reducible refine inB_o rfl ?_ | with_reducible refine inB_g ?_ | with_reducible refine Leads.go (by assumption) ?_)
      refine PCalls.mono (hN _) ?_
      intro d3 H3 hd3
      rw [hd3.1, hd3.2]
      clear hd3
      try simp [*]
      try simp [*]
      repeat (first | with_reducible refine seq_k fun K hK => ?_ | (with_reducible refine region_k fun K hK => ?_; simp [*]) | (with_reducible refine region_drawT_k mixedO (by decide +kernel) fun K hK => ?_; simp [*]) | (with_reducible refine region_tame_a mixedO (by decide +kernel) fun K hK => ?_; simp [*, Low, isLoadB, isTameB, List.range_succ, List.range']) | with_reducible refine pwp_block ?_ | with_reducible refine pwp_skip ?_ | with_reducible refine pwp_ret ?_ | with_reducible refine pwp_exit ?_ | (with_reducible refine cond_t ?_ ?_; (focus (simp [*]; done))) | (with_reducible refine cond_f ?_ ?_; (focus (simp [*]; done))) | with_reducible refine then_n ?_ | with_reducible refine then_r ?_ | with_reducible refine then_e ?_ | with_reducible refine then_g ?_ | with_reducible refine inB_n ?_ | with_reducible refine inB_r ?_ | with_reducible refine inB_e ?_ | with_reducible refine inB_o rfl ?_ | with_reducible refine inB_g ?_ | with_reducible refine Leads.go (by assumption) ?_)
      refine PCalls.mono (hN2 _) ?_
      intro d3 H3 hd3
      rw [hd3.1, hd3.2]
      clear hd3
      try simp [*]
      try simp [*]
      repeat (first | with_reducible refine seq_k fun K hK => ?_ | (with_reducible refine region_k fun K hK => ?_; simp [*]) | (with_reducible refine region_drawT_k mixedO (by decide +kernel) fun K hK => ?_; simp [*]) | (with_reducible refine region_tame_a mixedO (by decide +kernel) fun K hK => ?_; simp [*, Low, isLoadB, isTameB, List.range_succ, List.range']) | with_reducible refine pwp_block ?_ | with_reducible refine pwp_skip ?_ | with_reducible refine pwp_ret ?_ | with_reducible refine pwp_exit ?_ | (with_reducible refine cond_t ?_ ?_; (focus (simp [*]; done))) | (with_reducible refine cond_f ?_ ?_; (focus (simp [*]; done))) | with_reducible refine then_n ?_ | with_reducible refine then_r ?_ | with_reducible refine then_e ?_ | with_reducible refine then_g ?_ | with_reducible refine inB_n ?_ | with_reducible refine inB_r ?_ | with_reducible refine inB_e ?_ | with_reducible refine inB_o rfl ?_ | with_reducible refine inB_g ?_ | with_reducible refine Leads.go (by assumption) ?_)
      refine PCalls.mono (hO _) ?_
      intro d3 H3 hd3
      rw [hd3.1, hd3.2]
      clear hd3
      try simp [*]
      repeat (first | with_reducible refine seq_k fun K hK => ?_ | (with_reducible refine region_k fun K hK => ?_; simp [*]) | (with_reducible refine region_drawT_k mixedO (by decide +kernel) fun K hK => ?_; simp [*]) | (with_reducible refine region_tame_a mixedO (by decide +kernel) fun K hK => ?_; simp [*, Low, isLoadB, isTameB, List.range_succ, List.range']) | with_reducible refine pwp_block ?_ | with_reducible refine pwp_skip ?_ | with_reducible refine pwp_ret ?_ | with_reducible refine pwp_exit ?_ | (with_reducible refine cond_t ?_ ?_; (focus (simp [*]; done))) | (with_reducible refine cond_f ?_ ?_; (focus (simp [*]; done))) | with_reducible refine then_n ?_ | with_reducible refine then_r ?_ | with_reducible refine then_e ?_ | with_reducible refine then_g ?_ | with_reducible refine inB_n ?_ | with_reducible refine inB_r ?_ | with_reducible refine inB_e ?_ | with_reducible refine inB_o rfl ?_ | with_reducible refine inB_g ?_ | with_reducible refine Leads.go (by assumption) ?_)
      refine PCalls.mono (hO2 _) ?_
      intro d3 H3 hd3
      rw [hd3.1, hd3.2]
      clear hd3
      try simp [*]
      try simp [*]
      repeat (first | with_reducible refine seq_k fun K hK => ?_ | (with_reducible refine region_k fun K hK => ?_; simp [*]) | (with_reducible refine region_drawT_k mixedO (by decide +kernel) fun K hK => ?_; simp [*]) | (with_reducible refine region_tame_a mixedO (by decide +kernel) fun K hK => ?_; simp [*, Low, isLoadB, isTameB, List.range_succ, List.range']) | with_reducible refine pwp_block ?_ | with_reducible refine pwp_skip ?_ | with_reducible refine pwp_ret ?_ | with_reducible refine pwp_exit ?_ | (with_reducible refine cond_t ?_ ?_; (focus (simp [*]; done))) | (with_reducible refine cond_f ?_ ?_; (focus (simp [*]; done))) | with_reducible refine then_n ?_ | with_reducible refine then_r ?_ | with_reducible refine then_e ?_ | with_reducible refine then_g ?_ | with_reducible refine inB_n ?_ | with_reducible refine inB_r ?_ | with_reducible refine inB_e ?_ | with_reducible refine inB_o rfl ?_ | with_reducible refine inB_g ?_ | with_reducible refine Leads.go (by assumption) ?_)
      simp [*]
    · have hbl : b.length ≤ 100000 := by
        unfold putM at hpl
        obtain ⟨L, hL, rfl⟩ := Option.map_eq_some_iff.1 hpl
        obtain ⟨a1, a2, r, rfl, h1, h2, _, h4, h5, _⟩ := arcs_valid hL
        have k1 := sev_len (a1 * 40 + a2) (by omega)
        have k2 := flat_len r h5 r.length
        rw [List.take_length] at k2
        rw [enc, List.length_append]; omega
      have hR := Read_spec 0 5 b (.inl rfl) hbl
      rw [(readM_iff b l).2 hpl] at hR
      simp only [readD] at hR
      have hbc : (b = c) = (l = m) := by
        refine propext ⟨fun h => ?_, fun h => ?_⟩
        · subst h
          have h1 := (readM_iff b l).2 hpl
          have h2 := (readM_iff b m).2 hpm
          rw [h1] at h2; exact Option.some.inj h2
        · subst h; rw [hpl] at hpm; exact Option.some.inj hpm
      have hE1 := eToStr_by b
      have hE2 := eToStr_by c
      rw [hpl] at hN hP
      rw [hpm] at hN2 hP2
      simp only [Option.isSome] at hN hN2
      simp only [putD] at hP hP2
      clear hpl hpm
      repeat (first | with_reducible refine seq_k fun K hK => ?_ | (with_reducible refine region_k fun K hK => ?_; simp [*]) | (with_reducible refine region_drawT_k mixedO (by decide +kernel) fun K hK => ?_; simp [*]) | (with_reducible refine region_tame_a mixedO (by decide +kernel) fun K hK => ?_; simp [*, Low, isLoadB, isTameB, List.range_succ, List.range']) | with_reducible refine pwp_block ?_ | with_reducible refine pwp_skip ?_ | with_reducible refine pwp_ret ?_ | with_reducible refine pwp_exit ?_ | (with_reducible refine cond_t ?_ ?_; (focus (simp [*]; done))) | (with_reducible refine cond_f ?_ ?_; (focus (simp [*]; done))) | with_reducible refine then_n ?_ | with_reducible refine then_r ?_ | with_reducible refine then_e ?_ | with_reducible refine then_g ?_ | with_reducible refine inB_n ?_ | with_reducible refine inB_r ?_ | with_reducible refine inB_e ?_ | with_reducible refine inB_o rfl ?_ | with_reducible refine inB_g ?_ | with_reducible refine Leads.go (by assumption) ?_)
      refine PCalls.mono (hN _) ?_
      intro d3 H3 hd3
      rw [hd3.1, hd3.2]
      clear hd3
      try simp [*]
      try simp [*]
      repeat (first | with_reducible refine seq_k fun K hK => ?_ | (with_reducible refine region_k fun K hK => ?_; simp [*]) | (with_reducible refine region_drawT_k mixedO (by decide +kernel) fun K hK => ?_; simp [*]) | (with_reducible refine region_tame_a mixedO (by decide +kernel) fun K hK => ?_; simp [*, Low, isLoadB, isTameB, List.range_succ, List.range']) | with_reducible refine pwp_block ?_ | with_reducible refine pwp_skip ?_ | with_reducible refine pwp_ret ?_ | with_reducible refine pwp_exit ?_ | (with_reducible refine cond_t ?_ ?_; (focus (simp [*]; done))) | (with_reducible refine cond_f ?_ ?_; (focus (simp [*]; done))) | with_reducible refine then_n ?_ | with_reducible refine then_r ?_ | with_reducible refine then_e ?_ | with_reducible refine then_g ?_ | with_reducible refine inB_n ?_ | with_reducible refine inB_r ?_ | with_reducible refine inB_e ?_ | with_reducible refine inB_o rfl ?_ | with_reducible refine inB_g ?_ | with_reducible refine Leads.go (by assumption) ?_)
      refine PCalls.mono (hN2 _) ?_
      intro d3 H3 hd3
      rw [hd3.1, hd3.2]
      clear hd3
      try simp [*]
      try simp [*]
      repeat (first | with_reducible refine seq_k fun K hK => ?_ | (with_reducible refine region_k fun K hK => ?_; simp [*]) | (with_reducible refine region_drawT_k mixedO (by decide +kernel) fun K hK => ?_; simp [*]) | (with_reducible refine region_tame_a mixedO (by decide +kernel) fun K hK => ?_; simp [*, Low, isLoadB, isTameB, List.range_succ, List.range']) | with_reducible refine pwp_block ?_ | with_reducible refine pwp_skip ?_ | with_reducible refine pwp_ret ?_ | with_reducible refine pwp_exit ?_ | (with_reducible refine cond_t ?_ ?_; (focus (simp [*]; done))) | (with_reducible refine cond_f ?_ ?_; (focus (simp [*]; done))) | with_reducible refine then_n ?_ | with_reducible refine then_r ?_ | with_reducible refine then_e ?_ | with_reducible refine then_g ?_ | with_reducible refine inB_n ?_ | with_reducible refine inB_r ?_ | with_reducible refine inB_e ?_ | with_reducible refine inB_o rfl ?_ | with_reducible refine inB_g ?_ | with_reducible refine Leads.go (by assumption) ?_)
      refine PCalls.mono (hP _) ?_
      intro d3 H3 hd3
      rw [hd3.1, hd3.2]
      clear hd3
      try simp [*]
      repeat (first | with_reducible refine seq_k fun K hK => ?_ | (with_reducible refine region_k fun K hK => ?_; simp [*]) | (with_reducible refine region_drawT_k mixedO (by decide +kernel) fun K hK => ?_; simp [*]) | (with_reducible refine region_tame_a mixedO (by decide +kernel) fun K hK => ?_; simp [*, Low, isLoadB, isTameB, List.range_succ, List.range']) | with_reducible refine pwp_block ?_ | with_reducible refine pwp_skip ?_ | with_reducible refine pwp_ret ?_ | with_reducible refine pwp_exit ?_ | (with_reducible refine cond_t ?_ ?_; (focus (simp [*]; done))) | (with_reducible refine cond_f ?_ ?_; (focus (simp [*]; done))) | with_reducible refine then_n ?_ | with_reducible refine then_r ?_ | with_reducible refine then_e ?_ | with_reducible refine then_g ?_ | with_reducible refine inB_n ?_ | with_reducible refine inB_r ?_ | with_reducible refine inB_e ?_ | with_reducible refine inB_o rfl ?_ | with_reducible refine inB_g ?_ | with_reducible refine Leads.go (by assumption) ?_)
      refine PCalls.mono (hP2 _) ?_
      intro d3 H3 hd3
      rw [hd3.1, hd3.2]
      clear hd3
      try simp [*]
      repeat (first | with_reducible refine seq_k fun K hK => ?_ | (with_reducible refine region_k fun K hK => ?_; simp [*]) | (with_reducible refine region_drawT_k mixedO (by decide +kernel) fun K hK => ?_; simp [*]) | (with_reducible refine region_tame_a mixedO (by decide +kernel) fun K hK => ?_; simp [*, Low, isLoadB, isTameB, List.range_succ, List.range']) | with_reducible refine pwp_block ?_ | with_reducible refine pwp_skip ?_ | with_reducible refine pwp_ret ?_ | with_reducible refine pwp_exit ?_ | (with_reducible refine cond_t ?_ ?_; (focus (simp [*]; done))) | (with_reducible refine cond_f ?_ ?_; (focus (simp [*]; done))) | with_reducible refine then_n ?_ | with_reducible refine then_r ?_ | with_reducible refine then_e ?_ | with_reducible refine then_g ?_ | with_reducible refine inB_n ?_ | with_reducible refine inB_r ?_ | with_reducible refine inB_e ?_ | with_reducible refine inB_o rfl ?_ | with_reducible refine inB_g ?_ | with_reducible refine Leads.go (by assumption) ?_)
      refine PCalls.mono (hR _) ?_
      intro d3 H3 hd3
      rw [hd3.1, hd3.2]
      clear hd3
      try simp [*]
      try simp [*]
      repeat (first | with_reducible refine seq_k fun K hK => ?_ | (with_reducible refine region_k fun K hK => ?_; simp [*]) | (with_reducible refine region_drawT_k mixedO (by decide +kernel) fun K hK => ?_; simp [*]) | (with_reducible refine region_tame_a mixedO (by decide +kernel) fun K hK => ?_; simp [*, Low, isLoadB, isTameB, List.range_succ, List.range']) | with_reducible refine pwp_block ?_ | with_reducible refine pwp_skip ?_ | with_reducible refine pwp_ret ?_ | with_reducible refine pwp_exit ?_ | (with_reducible refine cond_t ?_ ?_; (focus (simp [*]; done))) | (with_reducible refine cond_f ?_ ?_; (focus (simp [*]; done))) | with_reducible refine then_n ?_ | with_reducible refine then_r ?_ | with_reducible refine then_e ?_ | with_reducible refine then_g ?_ | with_reducible refine inB_n ?_ | with_reducible refine inB_r ?_ | with_reducible refine inB_e ?_ | with_reducible refine inB_o rfl ?_ | with_reducible refine inB_g ?_ | with_reducible refine Leads.go (by assumption) ?_)
      simp [*]
theorem OidBack_walk (a0 : ByteArray) (w0 : a0.size ≤ 140737488351232) (a1 : ByteArray) (w1 : a1.size ≤ 140737488351232) : PCalls Tryd.prog 3 [.val (.string a0), .val (.string a1)] (noHeap noG) fun d _ => d = .val (.bool true) := by
  obtain ⟨l, rfl⟩ : ∃ l : By, a0 = ⟨l.toArray⟩ := ⟨a0.data.toList, by simp⟩
  obtain ⟨m, rfl⟩ : ∃ m : By, a1 = ⟨m.toArray⟩ := ⟨a1.data.toList, by simp⟩
  exact OidBack_local l m (by simpa using w0) (by simpa using w1)
end Go.Pv
