/- A part of the proof: functions of the program, walked, or what operations come to. -/
import Derived.Test.YtnmpinbfddjhmaaGreatPvV4
-- ZpvTameA ZpvDrawT
namespace Go.Pv
open Go.Proofs
attribute [-simp] eLen UInt8.ofNat_add

/-! ### The document's fold -/
set_option maxHeartbeats 4000000 in
set_option maxRecDepth 100000 in
theorem rblank_spec (v : Nat) (H : Heap) : PCalls Tryz.prog 62 [.val (.int .i32 (v : Nat))] H fun d H' => d = .val (.bool (blankC v)) ∧ H' = H := by
  refine PCalls.of_pwp Tryz.call62 Tryz.func62 rfl (by simp [Tryz.ntmps62]) ?_
  rw [Tryz.ntmps62]
  have hb : blankC v = ((decide (9 ≤ (v : Int)) && decide ((v : Int) ≤ 13)) || decide ((v : Int) = 32) || decide ((v : Int) = 133) || decide ((v : Int) = 160)) := by
    unfold blankC
    congr 1
    · congr 1
      · congr 1
        · congr 1 <;> rw [decide_eq_decide] <;> omega
        · rw [decide_eq_decide]; omega
      · rw [decide_eq_decide]; omega
    · rw [decide_eq_decide]; omega
  rw [hb]
  clear hb
  by_cases g1 : 9 ≤ (v : Int)
  · by_cases g2 : (v : Int) ≤ 13
    · repeat (first | (with_reducible first | refine seq_k fun K hK => ?_ | refine pwp_block ?_ | refine pwp_skip ?_ | refine pwp_ret ?_ | refine pwp_exit ?_ | refine then_n ?_ | refine then_r ?_ | refine then_e ?_ | refine then_g ?_ | refine inB_n ?_ | refine inB_r ?_ | refine inB_e ?_ | refine inB_o rfl ?_ | refine inB_g ?_ | refine Leads.go (by assumption) ?_) | (with_reducible refine region_k fun K hK => ?_; simp [*]) | (with_reducible refine region_drawT_k mixedO (by decide +kernel) fun K hK => ?_; simp [*]) | (with_reducible refine region_tame_a mixedO (by decide +kernel) fun K hK => ?_; simp [*, Low, isLoadB, isTameB, List.range_succ, List.range']) | (with_reducible refine cond_t ?_ ?_; (focus (simp [*]; done))) | (with_reducible refine cond_f ?_ ?_; (focus (simp [*]; done))))
      simp [*]
    · by_cases g3 : (v : Int) = 32
      · repeat (first | (with_reducible first | refine seq_k fun K hK => ?_ | refine pwp_block ?_ | refine pwp_skip ?_ | refine pwp_ret ?_ | refine pwp_exit ?_ | refine then_n ?_ | refine then_r ?_ | refine then_e ?_ | refine then_g ?_ | refine inB_n ?_ | refine inB_r ?_ | refine inB_e ?_ | refine inB_o rfl ?_ | refine inB_g ?_ | refine Leads.go (by assumption) ?_) | (with_reducible refine region_k fun K hK => ?_; simp [*]) | (with_reducible refine region_drawT_k mixedO (by decide +kernel) fun K hK => ?_; simp [*]) | (with_reducible refine region_tame_a mixedO (by decide +kernel) fun K hK => ?_; simp [*, Low, isLoadB, isTameB, List.range_succ, List.range']) | (with_reducible refine cond_t ?_ ?_; (focus (simp [*]; done))) | (with_reducible refine cond_f ?_ ?_; (focus (simp [*]; done))))
        simp [*]
      · by_cases g4 : (v : Int) = 133
        · repeat (first | (with_reducible first | refine seq_k fun K hK => ?_ | refine pwp_block ?_ | refine pwp_skip ?_ | refine pwp_ret ?_ | refine pwp_exit ?_ | refine then_n ?_ | refine then_r ?_ | refine then_e ?_ | refine then_g ?_ | refine inB_n ?_ | refine inB_r ?_ | refine inB_e ?_ | refine inB_o rfl ?_ | refine inB_g ?_ | refine Leads.go (by assumption) ?_) | (with_reducible refine region_k fun K hK => ?_; simp [*]) | (with_reducible refine region_drawT_k mixedO (by decide +kernel) fun K hK => ?_; simp [*]) | (with_reducible refine region_tame_a mixedO (by decide +kernel) fun K hK => ?_; simp [*, Low, isLoadB, isTameB, List.range_succ, List.range']) | (with_reducible refine cond_t ?_ ?_; (focus (simp [*]; done))) | (with_reducible refine cond_f ?_ ?_; (focus (simp [*]; done))))
          simp [*]
        · repeat (first | (with_reducible first | refine seq_k fun K hK => ?_ | refine pwp_block ?_ | refine pwp_skip ?_ | refine pwp_ret ?_ | refine pwp_exit ?_ | refine then_n ?_ | refine then_r ?_ | refine then_e ?_ | refine then_g ?_ | refine inB_n ?_ | refine inB_r ?_ | refine inB_e ?_ | refine inB_o rfl ?_ | refine inB_g ?_ | refine Leads.go (by assumption) ?_) | (with_reducible refine region_k fun K hK => ?_; simp [*]) | (with_reducible refine region_drawT_k mixedO (by decide +kernel) fun K hK => ?_; simp [*]) | (with_reducible refine region_tame_a mixedO (by decide +kernel) fun K hK => ?_; simp [*, Low, isLoadB, isTameB, List.range_succ, List.range']) | (with_reducible refine cond_t ?_ ?_; (focus (simp [*]; done))) | (with_reducible refine cond_f ?_ ?_; (focus (simp [*]; done))))
          simp [*]
  · have g3 : ¬ (v : Int) = 32 := by omega
    have g4 : ¬ (v : Int) = 133 := by omega
    have g5 : ¬ (v : Int) = 160 := by omega
    repeat (first | (with_reducible first | refine seq_k fun K hK => ?_ | refine pwp_block ?_ | refine pwp_skip ?_ | refine pwp_ret ?_ | refine pwp_exit ?_ | refine then_n ?_ | refine then_r ?_ | refine then_e ?_ | refine then_g ?_ | refine inB_n ?_ | refine inB_r ?_ | refine inB_e ?_ | refine inB_o rfl ?_ | refine inB_g ?_ | refine Leads.go (by assumption) ?_) | (with_reducible refine region_k fun K hK => ?_; simp [*]) | (with_reducible refine region_drawT_k mixedO (by decide +kernel) fun K hK => ?_; simp [*]) | (with_reducible refine region_tame_a mixedO (by decide +kernel) fun K hK => ?_; simp [*, Low, isLoadB, isTameB, List.range_succ, List.range']) | (with_reducible refine cond_t ?_ ?_; (focus (simp [*]; done))) | (with_reducible refine cond_f ?_ ?_; (focus (simp [*]; done))))
    simp [*]
set_option maxHeartbeats 4000000 in
set_option maxRecDepth 100000 in
theorem rnothing_spec (v : Nat) (H : Heap) : PCalls Tryz.prog 61 [.val (.int .i32 (v : Nat))] H fun d H' => d = .val (.bool (nothC v)) ∧ H' = H := by
  refine PCalls.of_pwp Tryz.call61 Tryz.func61 rfl (by simp [Tryz.ntmps61]) ?_
  rw [Tryz.ntmps61]
  by_cases g1 : (v : Int) < 32
  · have h2 : ¬ (v : Int) = 127 := by omega
    have h3 : ¬ (v : Int) = 173 := by omega
    have h4 : ¬ (v : Int) = 8203 := by omega
    have hn : nothC v = !blankC v := by simp [nothC, show v < 32 by omega, show ¬ v = 127 by omega, show ¬ v = 173 by omega, show ¬ v = 8203 by omega]
    cases hb : blankC v
    · rw [hb] at hn
      repeat (first | (with_reducible first | refine seq_k fun K hK => ?_ | refine pwp_block ?_ | refine pwp_skip ?_ | refine pwp_ret ?_ | refine pwp_exit ?_ | refine then_n ?_ | refine then_r ?_ | refine then_e ?_ | refine then_g ?_ | refine inB_n ?_ | refine inB_r ?_ | refine inB_e ?_ | refine inB_o rfl ?_ | refine inB_g ?_ | refine Leads.go (by assumption) ?_) | (with_reducible refine region_k fun K hK => ?_; simp [*]) | (with_reducible refine region_drawT_k mixedO (by decide +kernel) fun K hK => ?_; simp [*]) | (with_reducible refine region_tame_a mixedO (by decide +kernel) fun K hK => ?_; simp [*, Low, isLoadB, isTameB, List.range_succ, List.range']) | (with_reducible refine cond_t ?_ ?_; (focus (simp [*]; done))) | (with_reducible refine cond_f ?_ ?_; (focus (simp [*]; done))))
      refine PCalls.mono (rblank_spec v _) ?_
      intro d3 H3 hd3
      rw [hd3.1, hd3.2]
      clear hd3
      try simp [*]
      try simp [*]
      repeat (first | (with_reducible first | refine seq_k fun K hK => ?_ | refine pwp_block ?_ | refine pwp_skip ?_ | refine pwp_ret ?_ | refine pwp_exit ?_ | refine then_n ?_ | refine then_r ?_ | refine then_e ?_ | refine then_g ?_ | refine inB_n ?_ | refine inB_r ?_ | refine inB_e ?_ | refine inB_o rfl ?_ | refine inB_g ?_ | refine Leads.go (by assumption) ?_) | (with_reducible refine region_k fun K hK => ?_; simp [*]) | (with_reducible refine region_drawT_k mixedO (by decide +kernel) fun K hK => ?_; simp [*]) | (with_reducible refine region_tame_a mixedO (by decide +kernel) fun K hK => ?_; simp [*, Low, isLoadB, isTameB, List.range_succ, List.range']) | (with_reducible refine cond_t ?_ ?_; (focus (simp [*]; done))) | (with_reducible refine cond_f ?_ ?_; (focus (simp [*]; done))))
      simp [*]
    · rw [hb] at hn
      repeat (first | (with_reducible first | refine seq_k fun K hK => ?_ | refine pwp_block ?_ | refine pwp_skip ?_ | refine pwp_ret ?_ | refine pwp_exit ?_ | refine then_n ?_ | refine then_r ?_ | refine then_e ?_ | refine then_g ?_ | refine inB_n ?_ | refine inB_r ?_ | refine inB_e ?_ | refine inB_o rfl ?_ | refine inB_g ?_ | refine Leads.go (by assumption) ?_) | (with_reducible refine region_k fun K hK => ?_; simp [*]) | (with_reducible refine region_drawT_k mixedO (by decide +kernel) fun K hK => ?_; simp [*]) | (with_reducible refine region_tame_a mixedO (by decide +kernel) fun K hK => ?_; simp [*, Low, isLoadB, isTameB, List.range_succ, List.range']) | (with_reducible refine cond_t ?_ ?_; (focus (simp [*]; done))) | (with_reducible refine cond_f ?_ ?_; (focus (simp [*]; done))))
      refine PCalls.mono (rblank_spec v _) ?_
      intro d3 H3 hd3
      rw [hd3.1, hd3.2]
      clear hd3
      try simp [*]
      try simp [*]
      repeat (first | (with_reducible first | refine seq_k fun K hK => ?_ | refine pwp_block ?_ | refine pwp_skip ?_ | refine pwp_ret ?_ | refine pwp_exit ?_ | refine then_n ?_ | refine then_r ?_ | refine then_e ?_ | refine then_g ?_ | refine inB_n ?_ | refine inB_r ?_ | refine inB_e ?_ | refine inB_o rfl ?_ | refine inB_g ?_ | refine Leads.go (by assumption) ?_) | (with_reducible refine region_k fun K hK => ?_; simp [*]) | (with_reducible refine region_drawT_k mixedO (by decide +kernel) fun K hK => ?_; simp [*]) | (with_reducible refine region_tame_a mixedO (by decide +kernel) fun K hK => ?_; simp [*, Low, isLoadB, isTameB, List.range_succ, List.range']) | (with_reducible refine cond_t ?_ ?_; (focus (simp [*]; done))) | (with_reducible refine cond_f ?_ ?_; (focus (simp [*]; done))))
      simp [*]
  · by_cases h2 : (v : Int) = 127
    · have hn : nothC v = true := by simp [nothC]; omega
      repeat (first | (with_reducible first | refine seq_k fun K hK => ?_ | refine pwp_block ?_ | refine pwp_skip ?_ | refine pwp_ret ?_ | refine pwp_exit ?_ | refine then_n ?_ | refine then_r ?_ | refine then_e ?_ | refine then_g ?_ | refine inB_n ?_ | refine inB_r ?_ | refine inB_e ?_ | refine inB_o rfl ?_ | refine inB_g ?_ | refine Leads.go (by assumption) ?_) | (with_reducible refine region_k fun K hK => ?_; simp [*]) | (with_reducible refine region_drawT_k mixedO (by decide +kernel) fun K hK => ?_; simp [*]) | (with_reducible refine region_tame_a mixedO (by decide +kernel) fun K hK => ?_; simp [*, Low, isLoadB, isTameB, List.range_succ, List.range']) | (with_reducible refine cond_t ?_ ?_; (focus (simp [*]; done))) | (with_reducible refine cond_f ?_ ?_; (focus (simp [*]; done))))
      simp [*]
    · by_cases h3 : (v : Int) = 173
      · have hn : nothC v = true := by simp [nothC]; omega
        repeat (first | (with_reducible first | refine seq_k fun K hK => ?_ | refine pwp_block ?_ | refine pwp_skip ?_ | refine pwp_ret ?_ | refine pwp_exit ?_ | refine then_n ?_ | refine then_r ?_ | refine then_e ?_ | refine then_g ?_ | refine inB_n ?_ | refine inB_r ?_ | refine inB_e ?_ | refine inB_o rfl ?_ | refine inB_g ?_ | refine Leads.go (by assumption) ?_) | (with_reducible refine region_k fun K hK => ?_; simp [*]) | (with_reducible refine region_drawT_k mixedO (by decide +kernel) fun K hK => ?_; simp [*]) | (with_reducible refine region_tame_a mixedO (by decide +kernel) fun K hK => ?_; simp [*, Low, isLoadB, isTameB, List.range_succ, List.range']) | (with_reducible refine cond_t ?_ ?_; (focus (simp [*]; done))) | (with_reducible refine cond_f ?_ ?_; (focus (simp [*]; done))))
        simp [*]
      · by_cases h4 : (v : Int) = 8203
        · have hn : nothC v = true := by simp [nothC]; omega
          repeat (first | (with_reducible first | refine seq_k fun K hK => ?_ | refine pwp_block ?_ | refine pwp_skip ?_ | refine pwp_ret ?_ | refine pwp_exit ?_ | refine then_n ?_ | refine then_r ?_ | refine then_e ?_ | refine then_g ?_ | refine inB_n ?_ | refine inB_r ?_ | refine inB_e ?_ | refine inB_o rfl ?_ | refine inB_g ?_ | refine Leads.go (by assumption) ?_) | (with_reducible refine region_k fun K hK => ?_; simp [*]) | (with_reducible refine region_drawT_k mixedO (by decide +kernel) fun K hK => ?_; simp [*]) | (with_reducible refine region_tame_a mixedO (by decide +kernel) fun K hK => ?_; simp [*, Low, isLoadB, isTameB, List.range_succ, List.range']) | (with_reducible refine cond_t ?_ ?_; (focus (simp [*]; done))) | (with_reducible refine cond_f ?_ ?_; (focus (simp [*]; done))))
          simp [*]
        · have hn : nothC v = false := by simp [nothC]; omega
          repeat (first | (with_reducible first | refine seq_k fun K hK => ?_ | refine pwp_block ?_ | refine pwp_skip ?_ | refine pwp_ret ?_ | refine pwp_exit ?_ | refine then_n ?_ | refine then_r ?_ | refine then_e ?_ | refine then_g ?_ | refine inB_n ?_ | refine inB_r ?_ | refine inB_e ?_ | refine inB_o rfl ?_ | refine inB_g ?_ | refine Leads.go (by assumption) ?_) | (with_reducible refine region_k fun K hK => ?_; simp [*]) | (with_reducible refine region_drawT_k mixedO (by decide +kernel) fun K hK => ?_; simp [*]) | (with_reducible refine region_tame_a mixedO (by decide +kernel) fun K hK => ?_; simp [*, Low, isLoadB, isTameB, List.range_succ, List.range']) | (with_reducible refine cond_t ?_ ?_; (focus (simp [*]; done))) | (with_reducible refine cond_f ?_ ?_; (focus (simp [*]; done))))
          simp [*]
set_option maxHeartbeats 4000000 in
set_option maxRecDepth 100000 in
theorem rsmall_local (v : Nat) (own : By) (ho : OwnC v own) (hv : v < 1114112) : PCalls Tryz.prog 63 [sD own, .val (.int .i32 (v : Nat))] (noHeap noG) fun d H' => d = sD (smallM v own) := by
  refine PCalls.of_pwp Tryz.call63 Tryz.func63 rfl (by simp [Tryz.ntmps63]) ?_
  rw [Tryz.ntmps63]
  by_cases h1 : 65 ≤ v ∧ v ≤ 90
  · have g1 : 65 ≤ (v : Int) := by omega
    have g2 : (v : Int) ≤ 90 := by omega
    have hc : capC v = true := by simp [capC]; omega
    have hs : smallM v own = [UInt8.ofNat (v + 32)] := by rw [smallM, if_pos hc, encode_small v (by omega) (by omega)]
    have w := wrapR ((v : Int) + 32) (by omega) (by omega)
    have w2 := wrapB ((v : Int) + 32) (by omega) (by omega)
    have hT : eToStr [.val (.int .u8 ((v : Int) + 32))] = some (.val (.string ⟨#[UInt8.ofNat (v + 32)]⟩)) := by
      have : ((v : Int) + 32).toNat = v + 32 := by omega
      simp [eToStr, isByteD, toByteD, this]
    repeat (first | (with_reducible first | refine seq_k fun K hK => ?_ | refine pwp_block ?_ | refine pwp_skip ?_ | refine pwp_ret ?_ | refine pwp_exit ?_ | refine then_n ?_ | refine then_r ?_ | refine then_e ?_ | refine then_g ?_ | refine inB_n ?_ | refine inB_r ?_ | refine inB_e ?_ | refine inB_o rfl ?_ | refine inB_g ?_ | refine Leads.go (by assumption) ?_) | (with_reducible refine region_k fun K hK => ?_; simp [*]) | (with_reducible refine region_drawT_k mixedO (by decide +kernel) fun K hK => ?_; simp [*]) | (with_reducible refine region_tame_a mixedO (by decide +kernel) fun K hK => ?_; simp [*, Low, isLoadB, isTameB, List.range_succ, List.range']) | (with_reducible refine cond_t ?_ ?_; (focus (simp [*]; done))) | (with_reducible refine cond_f ?_ ?_; (focus (simp [*]; done))))
    simp [*]
  · by_cases h2 : 192 ≤ v ∧ v ≤ 222
    · have g1 : 65 ≤ (v : Int) := by omega
      have g2 : ¬ (v : Int) ≤ 90 := by omega
      have g3 : 192 ≤ (v : Int) := by omega
      have g4 : (v : Int) ≤ 222 := by omega
      by_cases h5 : v = 215
      · subst h5
        have hs : smallM 215 own = own := by simp [smallM, show capC 215 = false from rfl]
        clear ho
        repeat (first | (with_reducible first | refine seq_k fun K hK => ?_ | refine pwp_block ?_ | refine pwp_skip ?_ | refine pwp_ret ?_ | refine pwp_exit ?_ | refine then_n ?_ | refine then_r ?_ | refine then_e ?_ | refine then_g ?_ | refine inB_n ?_ | refine inB_r ?_ | refine inB_e ?_ | refine inB_o rfl ?_ | refine inB_g ?_ | refine Leads.go (by assumption) ?_) | (with_reducible refine region_k fun K hK => ?_; simp [*]) | (with_reducible refine region_drawT_k mixedO (by decide +kernel) fun K hK => ?_; simp [*]) | (with_reducible refine region_tame_a mixedO (by decide +kernel) fun K hK => ?_; simp [*, Low, isLoadB, isTameB, List.range_succ, List.range']) | (with_reducible refine cond_t ?_ ?_; (focus (simp [*]; done))) | (with_reducible refine cond_f ?_ ?_; (focus (simp [*]; done))))
        simp [*]
      · have g5 : ¬ (v : Int) = 215 := by omega
        have hc : capC v = true := by simp [capC]; omega
        have hs : smallM v own = [195, UInt8.ofNat (v - 32)] := by rw [smallM, if_pos hc, encode_accent v (by omega) (by omega)]
        have hown := ho (by omega) (by omega)
        subst hown
        have b1 : byteAt [195, UInt8.ofNat (v - 64)] 1 = ((v - 64 : Nat) : Int) := by
          simp [byteAt]; omega
        have w2 : IntKind.u8.wrap (((v - 64 : Nat) : Int) + 32) = ((v - 32 : Nat) : Int) := by rw [wrapB _ (by omega) (by omega)]; omega
        have hT : eToStr [.val (.int .u8 195), .val (.int .u8 ((v - 32 : Nat) : Int))] = some (.val (.string ⟨#[195, UInt8.ofNat (v - 32)]⟩)) := by
          simp [eToStr, isByteD, toByteD]
        repeat (first | (with_reducible first | refine seq_k fun K hK => ?_ | refine pwp_block ?_ | refine pwp_skip ?_ | refine pwp_ret ?_ | refine pwp_exit ?_ | refine then_n ?_ | refine then_r ?_ | refine then_e ?_ | refine then_g ?_ | refine inB_n ?_ | refine inB_r ?_ | refine inB_e ?_ | refine inB_o rfl ?_ | refine inB_g ?_ | refine Leads.go (by assumption) ?_) | (with_reducible refine region_k fun K hK => ?_; simp [*]) | (with_reducible refine region_drawT_k mixedO (by decide +kernel) fun K hK => ?_; simp [*]) | (with_reducible refine region_tame_a mixedO (by decide +kernel) fun K hK => ?_; simp [*, Low, isLoadB, isTameB, List.range_succ, List.range']) | (with_reducible refine cond_t ?_ ?_; (focus (simp [*]; done))) | (with_reducible refine cond_f ?_ ?_; (focus (simp [*]; done))))
        refine ⟨rfl, ?_⟩
        repeat (first | (with_reducible first | refine seq_k fun K hK => ?_ | refine pwp_block ?_ | refine pwp_skip ?_ | refine pwp_ret ?_ | refine pwp_exit ?_ | refine then_n ?_ | refine then_r ?_ | refine then_e ?_ | refine then_g ?_ | refine inB_n ?_ | refine inB_r ?_ | refine inB_e ?_ | refine inB_o rfl ?_ | refine inB_g ?_ | refine Leads.go (by assumption) ?_) | (with_reducible refine region_k fun K hK => ?_; simp [*]) | (with_reducible refine region_drawT_k mixedO (by decide +kernel) fun K hK => ?_; simp [*]) | (with_reducible refine region_tame_a mixedO (by decide +kernel) fun K hK => ?_; simp [*, Low, isLoadB, isTameB, List.range_succ, List.range']) | (with_reducible refine cond_t ?_ ?_; (focus (simp [*]; done))) | (with_reducible refine cond_f ?_ ?_; (focus (simp [*]; done))))
        simp [*]
    · have hc : capC v = false := by simp [capC]; omega
      have hs : smallM v own = own := by simp [smallM, hc]
      by_cases g1 : 65 ≤ (v : Int)
      · have g2 : ¬ (v : Int) ≤ 90 := by omega
        by_cases g3 : 192 ≤ (v : Int)
        · have g4 : ¬ (v : Int) ≤ 222 := by omega
          repeat (first | (with_reducible first | refine seq_k fun K hK => ?_ | refine pwp_block ?_ | refine pwp_skip ?_ | refine pwp_ret ?_ | refine pwp_exit ?_ | refine then_n ?_ | refine then_r ?_ | refine then_e ?_ | refine then_g ?_ | refine inB_n ?_ | refine inB_r ?_ | refine inB_e ?_ | refine inB_o rfl ?_ | refine inB_g ?_ | refine Leads.go (by assumption) ?_) | (with_reducible refine region_k fun K hK => ?_; simp [*]) | (with_reducible refine region_drawT_k mixedO (by decide +kernel) fun K hK => ?_; simp [*]) | (with_reducible refine region_tame_a mixedO (by decide +kernel) fun K hK => ?_; simp [*, Low, isLoadB, isTameB, List.range_succ, List.range']) | (with_reducible refine cond_t ?_ ?_; (focus (simp [*]; done))) | (with_reducible refine cond_f ?_ ?_; (focus (simp [*]; done))))
          simp [*]
        · repeat (first | (with_reducible first | refine seq_k fun K hK => ?_ | refine pwp_block ?_ | refine pwp_skip ?_ | refine pwp_ret ?_ | refine pwp_exit ?_ | refine then_n ?_ | refine then_r ?_ | refine then_e ?_ | refine then_g ?_ | refine inB_n ?_ | refine inB_r ?_ | refine inB_e ?_ | refine inB_o rfl ?_ | refine inB_g ?_ | refine Leads.go (by assumption) ?_) | (with_reducible refine region_k fun K hK => ?_; simp [*]) | (with_reducible refine region_drawT_k mixedO (by decide +kernel) fun K hK => ?_; simp [*]) | (with_reducible refine region_tame_a mixedO (by decide +kernel) fun K hK => ?_; simp [*, Low, isLoadB, isTameB, List.range_succ, List.range']) | (with_reducible refine cond_t ?_ ?_; (focus (simp [*]; done))) | (with_reducible refine cond_f ?_ ?_; (focus (simp [*]; done))))
          simp [*]
      · have g3 : ¬ 192 ≤ (v : Int) := by omega
        repeat (first | (with_reducible first | refine seq_k fun K hK => ?_ | refine pwp_block ?_ | refine pwp_skip ?_ | refine pwp_ret ?_ | refine pwp_exit ?_ | refine then_n ?_ | refine then_r ?_ | refine then_e ?_ | refine then_g ?_ | refine inB_n ?_ | refine inB_r ?_ | refine inB_e ?_ | refine inB_o rfl ?_ | refine inB_g ?_ | refine Leads.go (by assumption) ?_) | (with_reducible refine region_k fun K hK => ?_; simp [*]) | (with_reducible refine region_drawT_k mixedO (by decide +kernel) fun K hK => ?_; simp [*]) | (with_reducible refine region_tame_a mixedO (by decide +kernel) fun K hK => ?_; simp [*, Low, isLoadB, isTameB, List.range_succ, List.range']) | (with_reducible refine cond_t ?_ ?_; (focus (simp [*]; done))) | (with_reducible refine cond_f ?_ ?_; (focus (simp [*]; done))))
        simp [*]
set_option maxRecDepth 100000 in
theorem rsmall_spec (v : Nat) (own : By) (ho : OwnC v own) (hv : v < 1114112) (H : Heap) : PCalls Tryz.prog 63 [sD own, .val (.int .i32 (v : Nat))] H fun d H' => d = sD (smallM v own) ∧ H' = H :=
  PCalls.liftG (rsmall_local v own ho hv) (fun d hd => by
    simp only [List.mem_cons, List.mem_nil_iff, or_false] at hd
    rcases hd with rfl | rfl <;> exact .val _) (.val _) H
set_option maxHeartbeats 8000000 in
set_option maxRecDepth 100000 in
theorem rprepared_spec (l : By) (ends letters : Bool) (hl : l.length ≤ 100000) (H : Heap) : PCalls Tryz.prog 45 [sD l, .val (.bool ends), .val (.bool letters)] H fun d H' => d = sD (prepM ends letters l) ∧ H' = H := by
  refine PCalls.of_pwp Tryz.call45 Tryz.func45 rfl (by simp [Tryz.ntmps45]) ?_
  rw [Tryz.ntmps45]
  repeat (first | (with_reducible first | refine seq_k fun K hK => ?_ | refine pwp_block ?_ | refine pwp_skip ?_ | refine pwp_ret ?_ | refine pwp_exit ?_ | refine then_n ?_ | refine then_r ?_ | refine then_e ?_ | refine then_g ?_ | refine inB_n ?_ | refine inB_r ?_ | refine inB_e ?_ | refine inB_o rfl ?_ | refine inB_g ?_ | refine Leads.go (by assumption) ?_) | (with_reducible refine region_k fun K hK => ?_; simp [*]) | (with_reducible refine region_drawT_k mixedO (by decide +kernel) fun K hK => ?_; simp [*]) | (with_reducible refine region_tame_a mixedO (by decide +kernel) fun K hK => ?_; simp [*, Low, isLoadB, isTameB, List.range_succ, List.range']) | (with_reducible refine cond_t ?_ ?_; (focus (simp [*]; done))) | (with_reducible refine cond_f ?_ ?_; (focus (simp [*]; done))))
  refine PCalls.mono (rCount_spec l hl _) ?_
  intro d3 H3 hd3
  rw [hd3.1, hd3.2]
  clear hd3
  try simp [*]
  cases hc : chars l with
  | none =>
    have hp : prepM ends letters l = l := by rw [prepM, hc]
    have h1 : countM l = -1 := by rw [countM, hc]
    try simp [*]
    repeat (first | (with_reducible first | refine seq_k fun K hK => ?_ | refine pwp_block ?_ | refine pwp_skip ?_ | refine pwp_ret ?_ | refine pwp_exit ?_ | refine then_n ?_ | refine then_r ?_ | refine then_e ?_ | refine then_g ?_ | refine inB_n ?_ | refine inB_r ?_ | refine inB_e ?_ | refine inB_o rfl ?_ | refine inB_g ?_ | refine Leads.go (by assumption) ?_) | (with_reducible refine region_k fun K hK => ?_; simp [*]) | (with_reducible refine region_drawT_k mixedO (by decide +kernel) fun K hK => ?_; simp [*]) | (with_reducible refine region_tame_a mixedO (by decide +kernel) fun K hK => ?_; simp [*, Low, isLoadB, isTameB, List.range_succ, List.range']) | (with_reducible refine cond_t ?_ ?_; (focus (simp [*]; done))) | (with_reducible refine cond_f ?_ ?_; (focus (simp [*]; done))))
    simp [*]
  | some cs0 =>
    have hp : prepM ends letters l = prepC ends letters cs0 := by rw [prepM, hc]
    have h1 : countM l = cs0.length := by rw [countM, hc]
    have h1' : ¬ countM l < 0 := by omega
    try simp [*]
    repeat (first | (with_reducible first | refine seq_k fun K hK => ?_ | refine pwp_block ?_ | refine pwp_skip ?_ | refine pwp_ret ?_ | refine pwp_exit ?_ | refine then_n ?_ | refine then_r ?_ | refine then_e ?_ | refine then_g ?_ | refine inB_n ?_ | refine inB_r ?_ | refine inB_e ?_ | refine inB_o rfl ?_ | refine inB_g ?_ | refine Leads.go (by assumption) ?_) | (with_reducible refine region_k fun K hK => ?_; simp [*]) | (with_reducible refine region_drawT_k mixedO (by decide +kernel) fun K hK => ?_; simp [*]) | (with_reducible refine region_tame_a mixedO (by decide +kernel) fun K hK => ?_; simp [*, Low, isLoadB, isTameB, List.range_succ, List.range']) | (with_reducible refine cond_t ?_ ?_; (focus (simp [*]; done))) | (with_reducible refine cond_f ?_ ?_; (focus (simp [*]; done))))
    clear h1 h1'
    refine pwp_loop (fun m st => ∃ r cs, m = r.length ∧ st.env.n = 59 ∧ st.df = [] ∧ st.H = H ∧ st.env.get 0 = sD r ∧ st.env.get 1 = .val (.bool ends) ∧ st.env.get 2 = .val (.bool letters) ∧ st.env.get 7 = sD (prepR ends letters cs).2 ∧ st.env.get 8 = .val (.bool (prepR ends letters cs).1) ∧ st.env.get 9 = .val (.bool (prepR ends letters cs).2.isEmpty) ∧ Left l cs r ∧ ∀ c ∈ cs, 0 < c.2.length ∧ c.2.length ≤ 4) l.length ⟨l, [], rfl, by simp, by simp, by simp, by simp, by simp, by simp, by simp [prepR], by simp [prepR], by simp [prepR], Left.start l, by simp⟩ ?_
    rintro m ⟨E, Hx, df⟩ ⟨r, cs, rfl, en, edf, eH, e0, e1, e2, e7, e8, e9, hL, hown⟩
    simp only at en edf eH e0 e1 e2 e7 e8 e9
    subst edf; replace eH := eH.symm; subst eH
    have hplen := prepR_len ends letters cs (fun c hc => (hown c hc).2)
    have hll := hL.2
    by_cases hr : r = []
    · subst hr
      have hc2 := hL.last
      rw [hc] at hc2
      cases hc2
      clear hc
      have hp2 : prepC ends letters cs0 = (prepR ends letters cs0).2 ++ (if (prepR ends letters cs0).1 && ends then [32] else []) := rfl
      obtain ⟨⟨bt, out⟩, hst⟩ : ∃ st, prepR ends letters cs0 = st := ⟨_, rfl⟩
      rw [hst] at e7 e8 e9 hplen hp2
      simp only at e7 e8 e9 hplen hp2
      have hob : out.length + 1 ≤ 9223372036854775807 := by omega
      cases bt
      · repeat (first | (with_reducible first | refine seq_k fun K hK => ?_ | refine pwp_block ?_ | refine pwp_skip ?_ | refine pwp_ret ?_ | refine pwp_exit ?_ | refine then_n ?_ | refine then_r ?_ | refine then_e ?_ | refine then_g ?_ | refine inB_n ?_ | refine inB_r ?_ | refine inB_e ?_ | refine inB_o rfl ?_ | refine inB_g ?_ | refine Leads.go (by assumption) ?_) | (with_reducible refine region_k fun K hK => ?_; simp [*]) | (with_reducible refine region_drawT_k mixedO (by decide +kernel) fun K hK => ?_; simp [*]) | (with_reducible refine region_tame_a mixedO (by decide +kernel) fun K hK => ?_; simp [*, Low, isLoadB, isTameB, List.range_succ, List.range']) | (with_reducible refine cond_t ?_ ?_; (focus (simp [*]; done))) | (with_reducible refine cond_f ?_ ?_; (focus (simp [*]; done))))
        simp [*]
      · cases ends
        · repeat (first | (with_reducible first | refine seq_k fun K hK => ?_ | refine pwp_block ?_ | refine pwp_skip ?_ | refine pwp_ret ?_ | refine pwp_exit ?_ | refine then_n ?_ | refine then_r ?_ | refine then_e ?_ | refine then_g ?_ | refine inB_n ?_ | refine inB_r ?_ | refine inB_e ?_ | refine inB_o rfl ?_ | refine inB_g ?_ | refine Leads.go (by assumption) ?_) | (with_reducible refine region_k fun K hK => ?_; simp [*]) | (with_reducible refine region_drawT_k mixedO (by decide +kernel) fun K hK => ?_; simp [*]) | (with_reducible refine region_tame_a mixedO (by decide +kernel) fun K hK => ?_; simp [*, Low, isLoadB, isTameB, List.range_succ, List.range']) | (with_reducible refine cond_t ?_ ?_; (focus (simp [*]; done))) | (with_reducible refine cond_f ?_ ?_; (focus (simp [*]; done))))
          simp [*]
        · repeat (first | (with_reducible first | refine seq_k fun K hK => ?_ | refine pwp_block ?_ | refine pwp_skip ?_ | refine pwp_ret ?_ | refine pwp_exit ?_ | refine then_n ?_ | refine then_r ?_ | refine then_e ?_ | refine then_g ?_ | refine inB_n ?_ | refine inB_r ?_ | refine inB_e ?_ | refine inB_o rfl ?_ | refine inB_g ?_ | refine Leads.go (by assumption) ?_) | (with_reducible refine region_k fun K hK => ?_; simp [*]) | (with_reducible refine region_drawT_k mixedO (by decide +kernel) fun K hK => ?_; simp [*]) | (with_reducible refine region_tame_a mixedO (by decide +kernel) fun K hK => ?_; simp [*, Low, isLoadB, isTameB, List.range_succ, List.range']) | (with_reducible refine cond_t ?_ ?_; (focus (simp [*]; done))) | (with_reducible refine cond_f ?_ ?_; (focus (simp [*]; done))))
          simp [*]
    · have hr' : 0 < r.length := List.length_pos_iff.2 hr
      cases hn : nextM r with
      | none =>
        have := hL.none hr hn
        rw [hc] at this; cases this
      | some p =>
        obtain ⟨v, n⟩ := p
        have hs := hL.step hr hn
        have hk := nextM_len hn
        have hoc := nextM_own hn
        have hn1 : (n : Int) ≤ (r.length : Int) := by omega
        have hn2 : n ≤ r.length := by omega
        have hownS : ∀ c ∈ cs ++ [(v, r.take n)], 0 < c.2.length ∧ c.2.length ≤ 4 := by
          intro c hc'
          rcases List.mem_append.1 hc' with h | h
          · exact hown c h
          · simp at h; subst h; simp; omega
        have hpn := prepR_snoc ends letters cs (v, r.take n)
        obtain ⟨⟨bt, out⟩, hst⟩ : ∃ st, prepR ends letters cs = st := ⟨_, rfl⟩
        rw [hst] at e7 e8 e9 hplen hpn
        simp only at e7 e8 e9 hplen
        have hNn : nextD (some (v, n)) = .tup [.val (.int .i32 (v : Nat)), .val (.int .i64 (n : Nat))] := rfl
        have hH := Hold.mk (And.intro hs (And.intro hownS hn))
        have hdl : (r.drop n).length < r.length := by simp; omega
        clear hs hownS hn hst hL hown hc
        have fin : ∀ (bt' : Bool) (out' : By), prepR ends letters (cs ++ [(v, r.take n)]) = (bt', out') → ∀ (E' : Env), E'.n = 59 → E'.get 0 = sD (r.drop n) → E'.get 1 = .val (.bool ends) → E'.get 2 = .val (.bool letters) → E'.get 7 = sD out' → E'.get 8 = .val (.bool bt') → E'.get 9 = .val (.bool out'.isEmpty) →
            ∃ k, k < r.length ∧ ∃ r' cs', k = r'.length ∧ E'.n = 59 ∧ ([] : List (FuncId × List D)) = [] ∧ H = H ∧ E'.get 0 = sD r' ∧ E'.get 1 = .val (.bool ends) ∧ E'.get 2 = .val (.bool letters) ∧ E'.get 7 = sD (prepR ends letters cs').2 ∧ E'.get 8 = .val (.bool (prepR ends letters cs').1) ∧ E'.get 9 = .val (.bool (prepR ends letters cs').2.isEmpty) ∧ Left l cs' r' ∧ ∀ c ∈ cs', 0 < c.2.length ∧ c.2.length ≤ 4 := by
          intro bt' out' hp' E' q1 q2 q3 q4 q5 q6 q7
          refine ⟨_, hdl, r.drop n, cs ++ [(v, r.take n)], rfl, q1, rfl, rfl, q2, q3, q4, ?_, ?_, ?_, hH.out.1, hH.out.2.1⟩
          · rw [hp']; exact q5
          · rw [hp']; exact q6
          · rw [hp']; exact q7
        repeat (first | (with_reducible first | refine seq_k fun K hK => ?_ | refine pwp_block ?_ | refine pwp_skip ?_ | refine pwp_ret ?_ | refine pwp_exit ?_ | refine then_n ?_ | refine then_r ?_ | refine then_e ?_ | refine then_g ?_ | refine inB_n ?_ | refine inB_r ?_ | refine inB_e ?_ | refine inB_o rfl ?_ | refine inB_g ?_ | refine Leads.go (by assumption) ?_) | (with_reducible refine region_k fun K hK => ?_; simp [*]) | (with_reducible refine region_drawT_k mixedO (by decide +kernel) fun K hK => ?_; simp [*]) | (with_reducible refine region_tame_a mixedO (by decide +kernel) fun K hK => ?_; simp [*, Low, isLoadB, isTameB, List.range_succ, List.range']) | (with_reducible refine cond_t ?_ ?_; (focus (simp [*]; done))) | (with_reducible refine cond_f ?_ ?_; (focus (simp [*]; done))))
        refine PCalls.mono (rNext_spec r (by omega) _) ?_
        intro d3 H3 hd3
        rw [hd3.1, hd3.2]
        clear hd3
        try simp [*]
        rw [hH.out.2.2, hNn]
        try simp [*]
        repeat (first | (with_reducible first | refine seq_k fun K hK => ?_ | refine pwp_block ?_ | refine pwp_skip ?_ | refine pwp_ret ?_ | refine pwp_exit ?_ | refine then_n ?_ | refine then_r ?_ | refine then_e ?_ | refine then_g ?_ | refine inB_n ?_ | refine inB_r ?_ | refine inB_e ?_ | refine inB_o rfl ?_ | refine inB_g ?_ | refine Leads.go (by assumption) ?_) | (with_reducible refine region_k fun K hK => ?_; simp [*]) | (with_reducible refine region_drawT_k mixedO (by decide +kernel) fun K hK => ?_; simp [*]) | (with_reducible refine region_tame_a mixedO (by decide +kernel) fun K hK => ?_; simp [*, Low, isLoadB, isTameB, List.range_succ, List.range']) | (with_reducible refine cond_t ?_ ?_; (focus (simp [*]; done))) | (with_reducible refine cond_f ?_ ?_; (focus (simp [*]; done))))
        refine PCalls.mono (rnothing_spec v _) ?_
        intro d3 H3 hd3
        rw [hd3.1, hd3.2]
        clear hd3
        try simp [*]
        cases hno : nothC v with
        | true =>
          have hb : blankC v = false := by
            cases hq : blankC v with
            | false => rfl
            | true => have := blank_noth v hq; rw [hno] at this; cases this
          have k1 : kindN v = 1 := by simp [kindN, hb, hno]
          have hpp : prepStep ends letters (bt, out) (v, r.take n) = (bt, out) := by simp [prepStep, k1]
          rw [hpp] at hpn
          try simp [*]
          repeat (first | (with_reducible first | refine seq_k fun K hK => ?_ | refine pwp_block ?_ | refine pwp_skip ?_ | refine pwp_ret ?_ | refine pwp_exit ?_ | refine then_n ?_ | refine then_r ?_ | refine then_e ?_ | refine then_g ?_ | refine inB_n ?_ | refine inB_r ?_ | refine inB_e ?_ | refine inB_o rfl ?_ | refine inB_g ?_ | refine Leads.go (by assumption) ?_) | (with_reducible refine region_k fun K hK => ?_; simp [*]) | (with_reducible refine region_drawT_k mixedO (by decide +kernel) fun K hK => ?_; simp [*]) | (with_reducible refine region_tame_a mixedO (by decide +kernel) fun K hK => ?_; simp [*, Low, isLoadB, isTameB, List.range_succ, List.range']) | (with_reducible refine cond_t ?_ ?_; (focus (simp [*]; done))) | (with_reducible refine cond_f ?_ ?_; (focus (simp [*]; done))))
          refine fin _ _ hpn _ ?_ ?_ ?_ ?_ ?_ ?_ ?_ <;> simp [*]
        | false =>
          try simp [*]
          repeat (first | (with_reducible first | refine seq_k fun K hK => ?_ | refine pwp_block ?_ | refine pwp_skip ?_ | refine pwp_ret ?_ | refine pwp_exit ?_ | refine then_n ?_ | refine then_r ?_ | refine then_e ?_ | refine then_g ?_ | refine inB_n ?_ | refine inB_r ?_ | refine inB_e ?_ | refine inB_o rfl ?_ | refine inB_g ?_ | refine Leads.go (by assumption) ?_) | (with_reducible refine region_k fun K hK => ?_; simp [*]) | (with_reducible refine region_drawT_k mixedO (by decide +kernel) fun K hK => ?_; simp [*]) | (with_reducible refine region_tame_a mixedO (by decide +kernel) fun K hK => ?_; simp [*, Low, isLoadB, isTameB, List.range_succ, List.range']) | (with_reducible refine cond_t ?_ ?_; (focus (simp [*]; done))) | (with_reducible refine cond_f ?_ ?_; (focus (simp [*]; done))))
          refine PCalls.mono (rblank_spec v _) ?_
          intro d3 H3 hd3
          rw [hd3.1, hd3.2]
          clear hd3
          try simp [*]
          cases hb : blankC v with
          | true =>
            have k0 : kindN v = 0 := by simp [kindN, hb]
            have hpp : prepStep ends letters (bt, out) (v, r.take n) = (true, out) := by simp [prepStep, k0]
            rw [hpp] at hpn
            try simp [*]
            repeat (first | (with_reducible first | refine seq_k fun K hK => ?_ | refine pwp_block ?_ | refine pwp_skip ?_ | refine pwp_ret ?_ | refine pwp_exit ?_ | refine then_n ?_ | refine then_r ?_ | refine then_e ?_ | refine then_g ?_ | refine inB_n ?_ | refine inB_r ?_ | refine inB_e ?_ | refine inB_o rfl ?_ | refine inB_g ?_ | refine Leads.go (by assumption) ?_) | (with_reducible refine region_k fun K hK => ?_; simp [*]) | (with_reducible refine region_drawT_k mixedO (by decide +kernel) fun K hK => ?_; simp [*]) | (with_reducible refine region_tame_a mixedO (by decide +kernel) fun K hK => ?_; simp [*, Low, isLoadB, isTameB, List.range_succ, List.range']) | (with_reducible refine cond_t ?_ ?_; (focus (simp [*]; done))) | (with_reducible refine cond_f ?_ ?_; (focus (simp [*]; done))))
            refine fin _ _ hpn _ ?_ ?_ ?_ ?_ ?_ ?_ ?_ <;> simp [*]
          | false =>
            have k2 : kindN v = 2 := by simp [kindN, hb, hno]
            have hpp : prepStep ends letters (bt, out) (v, r.take n) = (false, out ++ (if bt && (ends || !out.isEmpty) then [32] else []) ++ (if letters then smallM v (r.take n) else r.take n)) := by simp [prepStep, k2]
            rw [hpp] at hpn
            have hve : v < 1114112 := by omega
            have hsl : (smallM v (r.take n)).length ≤ 4 := by
              by_cases q : capC v = true
              · exact smallM_len _ _ q
              · rw [smallM, if_neg q]; simp; omega
            have hne : r.take n ≠ [] := by
              intro q
              rcases List.take_eq_nil_iff.1 q with h | h
              · omega
              · exact hr h
            have hse := smallM_pos v _ hne
            have hne' : (r.take n).isEmpty = false := by simpa using hne
            have hse' : (smallM v (r.take n)).isEmpty = false := by simpa using hse
            have hol : out.length ≤ 500000 := by omega
            have b0 : out.length + 1 ≤ 9223372036854775807 := by omega
            have b1 : out.length + n ≤ 9223372036854775807 := by omega
            have b2 : out.length + 1 + n ≤ 9223372036854775807 := by omega
            have b3 : out.length + (smallM v (r.take n)).length ≤ 9223372036854775807 := by omega
            have b4 : out.length + 1 + (smallM v (r.take n)).length ≤ 9223372036854775807 := by omega
            have hcase : bt = false ∨ (bt = true ∧ ends = true ∧ out.isEmpty = true) ∨ (bt = true ∧ ends = true ∧ out.isEmpty = false) ∨ (bt = true ∧ ends = false ∧ out.isEmpty = true) ∨ (bt = true ∧ ends = false ∧ out.isEmpty = false) := by
              cases bt <;> cases ends <;> cases out.isEmpty <;> simp
            rcases hcase with rfl | ⟨rfl, rfl, hz⟩ | ⟨rfl, rfl, hz⟩ | ⟨rfl, rfl, hz⟩ | ⟨rfl, rfl, hz⟩
            case' inl =>
              have hpn1 : prepR ends letters (cs ++ [(v, r.take n)]) = (false, out ++ (if letters then smallM v (r.take n) else r.take n)) := by rw [hpn]; simp
            case' inr.inl =>
              have hpn1 : prepR true letters (cs ++ [(v, r.take n)]) = (false, (out ++ [32]) ++ (if letters then smallM v (r.take n) else r.take n)) := by rw [hpn]; simp
              rw [hz] at e9
            case' inr.inr.inl =>
              have hpn1 : prepR true letters (cs ++ [(v, r.take n)]) = (false, (out ++ [32]) ++ (if letters then smallM v (r.take n) else r.take n)) := by rw [hpn]; simp
              rw [hz] at e9
            case' inr.inr.inr.inl =>
              have hpn1 : prepR false letters (cs ++ [(v, r.take n)]) = (false, out ++ (if letters then smallM v (r.take n) else r.take n)) := by rw [hpn, hz]; simp
              rw [hz] at e9
            case' inr.inr.inr.inr =>
              have hpn1 : prepR false letters (cs ++ [(v, r.take n)]) = (false, (out ++ [32]) ++ (if letters then smallM v (r.take n) else r.take n)) := by rw [hpn, hz]; simp
              rw [hz] at e9
            all_goals
              clear hpn hpp
              try clear hz
              try simp [*]
              repeat (first | (with_reducible first | refine seq_k fun K hK => ?_ | refine pwp_block ?_ | refine pwp_skip ?_ | refine pwp_ret ?_ | refine pwp_exit ?_ | refine then_n ?_ | refine then_r ?_ | refine then_e ?_ | refine then_g ?_ | refine inB_n ?_ | refine inB_r ?_ | refine inB_e ?_ | refine inB_o rfl ?_ | refine inB_g ?_ | refine Leads.go (by assumption) ?_) | (with_reducible refine region_k fun K hK => ?_; simp [*]) | (with_reducible refine region_drawT_k mixedO (by decide +kernel) fun K hK => ?_; simp [*]) | (with_reducible refine region_tame_a mixedO (by decide +kernel) fun K hK => ?_; simp [*, Low, isLoadB, isTameB, List.range_succ, List.range']) | (with_reducible refine cond_t ?_ ?_; (focus (simp [*]; done))) | (with_reducible refine cond_f ?_ ?_; (focus (simp [*]; done))))
            all_goals
              cases letters
              · simp only [Bool.false_eq_true, if_false] at hpn1
                try simp [*]
                repeat (first | (with_reducible first | refine seq_k fun K hK => ?_ | refine pwp_block ?_ | refine pwp_skip ?_ | refine pwp_ret ?_ | refine pwp_exit ?_ | refine then_n ?_ | refine then_r ?_ | refine then_e ?_ | refine then_g ?_ | refine inB_n ?_ | refine inB_r ?_ | refine inB_e ?_ | refine inB_o rfl ?_ | refine inB_g ?_ | refine Leads.go (by assumption) ?_) | (with_reducible refine region_k fun K hK => ?_; simp [*]) | (with_reducible refine region_drawT_k mixedO (by decide +kernel) fun K hK => ?_; simp [*]) | (with_reducible refine region_tame_a mixedO (by decide +kernel) fun K hK => ?_; simp [*, Low, isLoadB, isTameB, List.range_succ, List.range']) | (with_reducible refine cond_t ?_ ?_; (focus (simp [*]; done))) | (with_reducible refine cond_f ?_ ?_; (focus (simp [*]; done))))
                refine fin _ _ hpn1 _ ?_ ?_ ?_ ?_ ?_ ?_ ?_ <;> simp [*]
              · simp only [if_true] at hpn1
                try simp [*]
                repeat (first | (with_reducible first | refine seq_k fun K hK => ?_ | refine pwp_block ?_ | refine pwp_skip ?_ | refine pwp_ret ?_ | refine pwp_exit ?_ | refine then_n ?_ | refine then_r ?_ | refine then_e ?_ | refine then_g ?_ | refine inB_n ?_ | refine inB_r ?_ | refine inB_e ?_ | refine inB_o rfl ?_ | refine inB_g ?_ | refine Leads.go (by assumption) ?_) | (with_reducible refine region_k fun K hK => ?_; simp [*]) | (with_reducible refine region_drawT_k mixedO (by decide +kernel) fun K hK => ?_; simp [*]) | (with_reducible refine region_tame_a mixedO (by decide +kernel) fun K hK => ?_; simp [*, Low, isLoadB, isTameB, List.range_succ, List.range']) | (with_reducible refine cond_t ?_ ?_; (focus (simp [*]; done))) | (with_reducible refine cond_f ?_ ?_; (focus (simp [*]; done))))
                refine PCalls.mono (rsmall_spec v (r.take n) hoc hve _) ?_
                intro d3 H3 hd3
                rw [hd3.1, hd3.2]
                clear hd3
                try simp [*]
                try simp [*]
                repeat (first | (with_reducible first | refine seq_k fun K hK => ?_ | refine pwp_block ?_ | refine pwp_skip ?_ | refine pwp_ret ?_ | refine pwp_exit ?_ | refine then_n ?_ | refine then_r ?_ | refine then_e ?_ | refine then_g ?_ | refine inB_n ?_ | refine inB_r ?_ | refine inB_e ?_ | refine inB_o rfl ?_ | refine inB_g ?_ | refine Leads.go (by assumption) ?_) | (with_reducible refine region_k fun K hK => ?_; simp [*]) | (with_reducible refine region_drawT_k mixedO (by decide +kernel) fun K hK => ?_; simp [*]) | (with_reducible refine region_tame_a mixedO (by decide +kernel) fun K hK => ?_; simp [*, Low, isLoadB, isTameB, List.range_succ, List.range']) | (with_reducible refine cond_t ?_ ?_; (focus (simp [*]; done))) | (with_reducible refine cond_f ?_ ?_; (focus (simp [*]; done))))
                refine fin _ _ hpn1 _ ?_ ?_ ?_ ?_ ?_ ?_ ?_ <;> simp [*]
end Go.Pv
