/- A part of the proof: functions of the program, walked, or what operations come to. -/
import Derived.Test.YtnmpinbfddjhmaaGreatPvV1
-- ZpvTameA ZpvDrawT
namespace Go.Pv
open Go.Proofs
attribute [-simp] eLen UInt8.ofNat_add

def countM (l : By) : Int := match chars l with | none => -1 | some cs => cs.length
theorem countM_lt (l : By) : countM l < 0 ↔ chars l = none := by
  unfold countM; split
  · rename_i h; simp [h]
  · rename_i cs h; simp [h]
set_option maxHeartbeats 4000000 in
set_option maxRecDepth 100000 in
theorem Count_spec (l : By) (hl : l.length ≤ 100000) (H : Heap) : PCalls Tryz.prog 94 [sD l] H fun d H' => d = .val (.int .i64 (countM l)) ∧ H' = H := by
  refine PCalls.of_pwp Tryz.call94 Tryz.func94 rfl (by simp [Tryz.ntmps94]) ?_
  rw [Tryz.ntmps94]
  repeat (first | (with_reducible first | refine seq_k fun K hK => ?_ | refine pwp_block ?_ | refine pwp_skip ?_ | refine pwp_ret ?_ | refine pwp_exit ?_ | refine then_n ?_ | refine then_r ?_ | refine then_e ?_ | refine then_g ?_ | refine inB_n ?_ | refine inB_r ?_ | refine inB_e ?_ | refine inB_o rfl ?_ | refine inB_g ?_ | refine Leads.go (by assumption) ?_) | (with_reducible refine region_k fun K hK => ?_; simp [*]) | (with_reducible refine region_drawT_k mixedO (by decide +kernel) fun K hK => ?_; simp [*]) | (with_reducible refine region_tame_a mixedO (by decide +kernel) fun K hK => ?_; simp [*, Low, isLoadB, isTameB, List.range_succ, List.range']) | (with_reducible refine cond_t ?_ ?_; (focus (simp [*]; done))) | (with_reducible refine cond_f ?_ ?_; (focus (simp [*]; done))))
  refine pwp_loop (fun m st => ∃ r cs, m = r.length ∧ st.env.n = 21 ∧ st.df = [] ∧ st.H = H ∧ st.env.get 0 = sD r ∧ st.env.get 3 = .val (.int .i64 ((cs.length : Nat) : Int)) ∧ Left l cs r) l.length ⟨l, [], rfl, by simp, by simp, by simp, by simp, by simp, Left.start l⟩ ?_
  rintro m ⟨E, Hx, df⟩ ⟨r, cs, rfl, en, edf, eH, e0, e3, hL⟩
  simp only at en edf eH e0 e3
  subst edf; subst eH
  by_cases hr : r = []
  · subst hr
    have hc := hL.last
    have hcm : countM l = cs.length := by rw [countM, hc]
    repeat (first | (with_reducible first | refine seq_k fun K hK => ?_ | refine pwp_block ?_ | refine pwp_skip ?_ | refine pwp_ret ?_ | refine pwp_exit ?_ | refine then_n ?_ | refine then_r ?_ | refine then_e ?_ | refine then_g ?_ | refine inB_n ?_ | refine inB_r ?_ | refine inB_e ?_ | refine inB_o rfl ?_ | refine inB_g ?_ | refine Leads.go (by assumption) ?_) | (with_reducible refine region_k fun K hK => ?_; simp [*]) | (with_reducible refine region_drawT_k mixedO (by decide +kernel) fun K hK => ?_; simp [*]) | (with_reducible refine region_tame_a mixedO (by decide +kernel) fun K hK => ?_; simp [*, Low, isLoadB, isTameB, List.range_succ, List.range']) | (with_reducible refine cond_t ?_ ?_; (focus (simp [*]; done))) | (with_reducible refine cond_f ?_ ?_; (focus (simp [*]; done))))
    simp [*]
  · have hlen := hL.2
    have hr' : ¬ r = [] := hr
    repeat (first | (with_reducible first | refine seq_k fun K hK => ?_ | refine pwp_block ?_ | refine pwp_skip ?_ | refine pwp_ret ?_ | refine pwp_exit ?_ | refine then_n ?_ | refine then_r ?_ | refine then_e ?_ | refine then_g ?_ | refine inB_n ?_ | refine inB_r ?_ | refine inB_e ?_ | refine inB_o rfl ?_ | refine inB_g ?_ | refine Leads.go (by assumption) ?_) | (with_reducible refine region_k fun K hK => ?_; simp [*]) | (with_reducible refine region_drawT_k mixedO (by decide +kernel) fun K hK => ?_; simp [*]) | (with_reducible refine region_tame_a mixedO (by decide +kernel) fun K hK => ?_; simp [*, Low, isLoadB, isTameB, List.range_succ, List.range']) | (with_reducible refine cond_t ?_ ?_; (focus (simp [*]; done))) | (with_reducible refine cond_f ?_ ?_; (focus (simp [*]; done))))
    refine PCalls.mono (Next_spec r (by omega) _) ?_
    intro d3 H3 hd3
    rw [hd3.1, hd3.2]
    clear hd3
    try simp [*]
    cases hn : nextM r with
    | none =>
      have hc := hL.none hr hn
      have hcm : countM l = -1 := by rw [countM, hc]
      simp only [nextD, Option.getD_none]
      try simp [*]
      repeat (first | (with_reducible first | refine seq_k fun K hK => ?_ | refine pwp_block ?_ | refine pwp_skip ?_ | refine pwp_ret ?_ | refine pwp_exit ?_ | refine then_n ?_ | refine then_r ?_ | refine then_e ?_ | refine then_g ?_ | refine inB_n ?_ | refine inB_r ?_ | refine inB_e ?_ | refine inB_o rfl ?_ | refine inB_g ?_ | refine Leads.go (by assumption) ?_) | (with_reducible refine region_k fun K hK => ?_; simp [*]) | (with_reducible refine region_drawT_k mixedO (by decide +kernel) fun K hK => ?_; simp [*]) | (with_reducible refine region_tame_a mixedO (by decide +kernel) fun K hK => ?_; simp [*, Low, isLoadB, isTameB, List.range_succ, List.range']) | (with_reducible refine cond_t ?_ ?_; (focus (simp [*]; done))) | (with_reducible refine cond_f ?_ ?_; (focus (simp [*]; done))))
      simp [*]
    | some p =>
      obtain ⟨v, n⟩ := p
      have hs := hL.step hr hn
      have hk := nextM_len hn
      have hn0 : ¬ n = 0 := by omega
      have hnl : (n : Int) ≤ (r.length : Int) := by omega
      have hnl2 : n ≤ r.length := by omega
      have hw := wrapI ((cs.length : Int) + 1) (by omega) (by omega)
      simp only [nextD, Option.getD_some]
      have hsH := Hold.mk hs
      clear hs
      try simp [*]
      repeat (first | (with_reducible first | refine seq_k fun K hK => ?_ | refine pwp_block ?_ | refine pwp_skip ?_ | refine pwp_ret ?_ | refine pwp_exit ?_ | refine then_n ?_ | refine then_r ?_ | refine then_e ?_ | refine then_g ?_ | refine inB_n ?_ | refine inB_r ?_ | refine inB_e ?_ | refine inB_o rfl ?_ | refine inB_g ?_ | refine Leads.go (by assumption) ?_) | (with_reducible refine region_k fun K hK => ?_; simp [*]) | (with_reducible refine region_drawT_k mixedO (by decide +kernel) fun K hK => ?_; simp [*]) | (with_reducible refine region_tame_a mixedO (by decide +kernel) fun K hK => ?_; simp [*, Low, isLoadB, isTameB, List.range_succ, List.range']) | (with_reducible refine cond_t ?_ ?_; (focus (simp [*]; done))) | (with_reducible refine cond_f ?_ ?_; (focus (simp [*]; done))))
      refine ⟨(r.drop n).length, by simp; omega, r.drop n, cs ++ [(v, r.take n)], ?_⟩
      simp [*]
      simpa using hsH.out
set_option maxRecDepth 100000 in
set_option maxHeartbeats 4000000 in
theorem Right_spec (l : By) (hl : l.length ≤ 100000) (H : Heap) : PCalls Tryz.prog 91 [sD l] H fun d H' => d = .val (.bool (chars l).isSome) ∧ H' = H := by
  refine PCalls.of_pwp Tryz.call91 Tryz.func91 rfl (by simp [Tryz.ntmps91]) ?_
  rw [Tryz.ntmps91]
  repeat (first | (with_reducible first | refine seq_k fun K hK => ?_ | refine pwp_block ?_ | refine pwp_skip ?_ | refine pwp_ret ?_ | refine pwp_exit ?_ | refine then_n ?_ | refine then_r ?_ | refine then_e ?_ | refine then_g ?_ | refine inB_n ?_ | refine inB_r ?_ | refine inB_e ?_ | refine inB_o rfl ?_ | refine inB_g ?_ | refine Leads.go (by assumption) ?_) | (with_reducible refine region_k fun K hK => ?_; simp [*]) | (with_reducible refine region_drawT_k mixedO (by decide +kernel) fun K hK => ?_; simp [*]) | (with_reducible refine region_tame_a mixedO (by decide +kernel) fun K hK => ?_; simp [*, Low, isLoadB, isTameB, List.range_succ, List.range']) | (with_reducible refine cond_t ?_ ?_; (focus (simp [*]; done))) | (with_reducible refine cond_f ?_ ?_; (focus (simp [*]; done))))
  refine PCalls.mono (Count_spec l hl _) ?_
  intro d3 H3 hd3
  rw [hd3.1, hd3.2]
  clear hd3
  try simp [*]
  cases hc : chars l with
  | none =>
    have h1 : countM l = -1 := by rw [countM, hc]
    try simp [*]
    repeat (first | (with_reducible first | refine seq_k fun K hK => ?_ | refine pwp_block ?_ | refine pwp_skip ?_ | refine pwp_ret ?_ | refine pwp_exit ?_ | refine then_n ?_ | refine then_r ?_ | refine then_e ?_ | refine then_g ?_ | refine inB_n ?_ | refine inB_r ?_ | refine inB_e ?_ | refine inB_o rfl ?_ | refine inB_g ?_ | refine Leads.go (by assumption) ?_) | (with_reducible refine region_k fun K hK => ?_; simp [*]) | (with_reducible refine region_drawT_k mixedO (by decide +kernel) fun K hK => ?_; simp [*]) | (with_reducible refine region_tame_a mixedO (by decide +kernel) fun K hK => ?_; simp [*, Low, isLoadB, isTameB, List.range_succ, List.range']) | (with_reducible refine cond_t ?_ ?_; (focus (simp [*]; done))) | (with_reducible refine cond_f ?_ ?_; (focus (simp [*]; done))))
    simp [*]
  | some cs =>
    have h1 : countM l = cs.length := by rw [countM, hc]
    try simp [*]
    repeat (first | (with_reducible first | refine seq_k fun K hK => ?_ | refine pwp_block ?_ | refine pwp_skip ?_ | refine pwp_ret ?_ | refine pwp_exit ?_ | refine then_n ?_ | refine then_r ?_ | refine then_e ?_ | refine then_g ?_ | refine inB_n ?_ | refine inB_r ?_ | refine inB_e ?_ | refine inB_o rfl ?_ | refine inB_g ?_ | refine Leads.go (by assumption) ?_) | (with_reducible refine region_k fun K hK => ?_; simp [*]) | (with_reducible refine region_drawT_k mixedO (by decide +kernel) fun K hK => ?_; simp [*]) | (with_reducible refine region_tame_a mixedO (by decide +kernel) fun K hK => ?_; simp [*, Low, isLoadB, isTameB, List.range_succ, List.range']) | (with_reducible refine cond_t ?_ ?_; (focus (simp [*]; done))) | (with_reducible refine cond_f ?_ ?_; (focus (simp [*]; done))))
    simp [*]
theorem lead_cases (c : UInt8) : (c.toNat < 128 ∧ leadB c = (1, c.toNat, 0)) ∨ (194 ≤ c.toNat ∧ c.toNat < 224 ∧ leadB c = (2, c.toNat - 192, 128)) ∨ (224 ≤ c.toNat ∧ c.toNat < 240 ∧ leadB c = (3, c.toNat - 224, 2048)) ∨
    (240 ≤ c.toNat ∧ c.toNat < 245 ∧ leadB c = (4, c.toNat - 240, 65536)) ∨ (128 ≤ c.toNat ∧ ¬ (194 ≤ c.toNat ∧ c.toNat < 245) ∧ ∀ t, nextM (c :: t) = none) := by
  have hx := c.toNat_lt
  by_cases h1 : c.toNat < 128
  · exact .inl ⟨h1, by simp [leadB, h1]⟩
  by_cases h2 : 194 ≤ c.toNat ∧ c.toNat < 224
  · refine .inr (.inl ⟨h2.1, h2.2, ?_⟩)
    have e1 : c.toNat / 32 = 6 := by omega
    have e2 : c.toNat % 32 = c.toNat - 192 := by omega
    simp [leadB, h1, e1, e2]
  by_cases h3 : 224 ≤ c.toNat ∧ c.toNat < 240
  · refine .inr (.inr (.inl ⟨h3.1, h3.2, ?_⟩))
    have e0 : ¬ c.toNat / 32 = 6 := by omega
    have e1 : c.toNat / 16 = 14 := by omega
    have e2 : c.toNat % 16 = c.toNat - 224 := by omega
    simp [leadB, h1, e0, e1, e2]
  by_cases h4 : 240 ≤ c.toNat ∧ c.toNat < 245
  · refine .inr (.inr (.inr (.inl ⟨h4.1, h4.2, ?_⟩)))
    have e0 : ¬ c.toNat / 32 = 6 := by omega
    have e1 : ¬ c.toNat / 16 = 14 := by omega
    have e3 : c.toNat / 8 = 30 := by omega
    have e2 : c.toNat % 8 = c.toNat - 240 := by omega
    simp [leadB, h1, e0, e1, e2, e3]
  refine .inr (.inr (.inr (.inr ⟨by omega, by omega, fun t => ?_⟩)))
  by_cases g1 : c.toNat / 32 = 6
  · have hq : leadB c = (2, c.toNat % 32, 128) := by simp [leadB, h1, g1]
    rw [nextM, hq]
    cases t with
    | nil => simp
    | cons x t =>
      have hb : badC (accum (c.toNat % 32) [x]) 128 = true := by
        have h7 : c.toNat % 32 * 64 + x.toNat % 64 < 128 := by omega
        simp [badC, accum, h7]
      simp [hb]
  · by_cases g2 : c.toNat / 8 = 30
    · have e0 : ¬ c.toNat / 32 = 6 := by omega
      have e1 : ¬ c.toNat / 16 = 14 := by omega
      have hq : leadB c = (4, c.toNat % 8, 65536) := by simp [leadB, h1, e0, e1, g2]
      rw [nextM, hq]
      rcases t with _ | ⟨x, _ | ⟨y, _ | ⟨z, t⟩⟩⟩
      · simp
      · simp
      · simp
      · have hb : badC (accum (c.toNat % 8) [x, y, z]) 65536 = true := by
          have h7 : 1114111 < ((c.toNat % 8 * 64 + x.toNat % 64) * 64 + y.toNat % 64) * 64 + z.toNat % 64 := by omega
          simp [badC, accum, h7]
        simp [hb]
    · have hq : leadB c = (0, 0, 0) := by
        have e1 : ¬ c.toNat / 16 = 14 := by omega
        simp [leadB, h1, g1, g2, e1]
      rw [nextM, hq]; simp
set_option maxHeartbeats 4000000 in
set_option maxRecDepth 100000 in
theorem rNext_spec (l : By) (hl : l.length ≤ 100000) (H : Heap) : PCalls Tryz.prog 46 [sD l] H fun d H' => d = nextD (nextM l) ∧ H' = H := by
  refine PCalls.of_pwp Tryz.call46 Tryz.func46 rfl (by simp [Tryz.ntmps46]) ?_
  rw [Tryz.ntmps46]
  rcases l with _ | ⟨c, t⟩
  · repeat (first | (with_reducible first | refine seq_k fun K hK => ?_ | refine pwp_block ?_ | refine pwp_skip ?_ | refine pwp_ret ?_ | refine pwp_exit ?_ | refine then_n ?_ | refine then_r ?_ | refine then_e ?_ | refine then_g ?_ | refine inB_n ?_ | refine inB_r ?_ | refine inB_e ?_ | refine inB_o rfl ?_ | refine inB_g ?_ | refine Leads.go (by assumption) ?_) | (with_reducible refine region_k fun K hK => ?_; simp [*]) | (with_reducible refine region_drawT_k mixedO (by decide +kernel) fun K hK => ?_; simp [*]) | (with_reducible refine region_tame_a mixedO (by decide +kernel) fun K hK => ?_; simp [*, Low, isLoadB, isTameB, List.range_succ, List.range']) | (with_reducible refine cond_t ?_ ?_; (focus (simp [*]; done))) | (with_reducible refine cond_f ?_ ?_; (focus (simp [*]; done))))
    simp [nextD, nextM]
  · have bc : byteAt (c :: t) 0 = (c.toNat : Int) := byteAt_of rfl
    have hx := c.toNat_lt
    have w1 := wrapI (c.toNat : Int) (by omega) (by omega)
    have z1 : ¬ (t.length : Int) + 1 = 0 := by omega
    rcases lead_cases c with ⟨h1, hq⟩ | ⟨h1, h2, hq⟩ | ⟨h1, h2, hq⟩ | ⟨h1, h2, hq⟩ | ⟨h1, h2, hq⟩
    · have hNx : nextM (c :: t) = some (c.toNat, 1) := by
        have : badC c.toNat 0 = false := by simp [badC]; omega
        rw [nextM, hq]; simp [accum, this]
      have h1' : (c.toNat : Int) < 128 := by omega
      have w2 := wrapR (c.toNat : Int) (by omega) (by omega)
      repeat (first | (with_reducible first | refine seq_k fun K hK => ?_ | refine pwp_block ?_ | refine pwp_skip ?_ | refine pwp_ret ?_ | refine pwp_exit ?_ | refine then_n ?_ | refine then_r ?_ | refine then_e ?_ | refine then_g ?_ | refine inB_n ?_ | refine inB_r ?_ | refine inB_e ?_ | refine inB_o rfl ?_ | refine inB_g ?_ | refine Leads.go (by assumption) ?_) | (with_reducible refine region_k fun K hK => ?_; simp [*]) | (with_reducible refine region_drawT_k mixedO (by decide +kernel) fun K hK => ?_; simp [*]) | (with_reducible refine region_tame_a mixedO (by decide +kernel) fun K hK => ?_; simp [*, Low, isLoadB, isTameB, List.range_succ, List.range']) | (with_reducible refine cond_t ?_ ?_; (focus (simp [*]; done))) | (with_reducible refine cond_f ?_ ?_; (focus (simp [*]; done))))
      simp [*, nextD]
    case' inr.inl =>
      obtain ⟨n, hnI⟩ : ∃ n : Nat, n = 2 := ⟨2, rfl⟩
      obtain ⟨b, hbI⟩ : ∃ b : Nat, b = c.toNat - 192 := ⟨_, rfl⟩
      obtain ⟨least, hlI⟩ : ∃ b : Nat, b = 128 := ⟨_, rfl⟩
      have hb7 : b < 128 := by omega
      have hn4 : n ≤ 4 := by omega
      have h0 : ¬ n = 0 := by omega
      rw [← hnI, ← hbI, ← hlI] at hq
      have n1 : (n : Int) = 2 := by omega
      have n2 : (b : Int) = (c.toNat : Int) - 192 := by omega
      have n3 : (least : Int) = 128 := by omega
      have g0 : ¬ (c.toNat : Int) < 128 := by omega
      have g1 : 194 ≤ (c.toNat : Int) := by omega
      have g2 : (c.toNat : Int) < 224 := by omega
      have w2 := wrapI ((c.toNat : Int) - 192) (by omega) (by omega)
      clear h1 h2 hnI hbI hlI
    case' inr.inr.inl =>
      obtain ⟨n, hnI⟩ : ∃ n : Nat, n = 3 := ⟨_, rfl⟩
      obtain ⟨b, hbI⟩ : ∃ b : Nat, b = c.toNat - 224 := ⟨_, rfl⟩
      obtain ⟨least, hlI⟩ : ∃ b : Nat, b = 2048 := ⟨_, rfl⟩
      have hb7 : b < 128 := by omega
      have hn4 : n ≤ 4 := by omega
      have h0 : ¬ n = 0 := by omega
      rw [← hnI, ← hbI, ← hlI] at hq
      have n1 : (n : Int) = 3 := by omega
      have n2 : (b : Int) = (c.toNat : Int) - 224 := by omega
      have n3 : (least : Int) = 2048 := by omega
      have g0 : ¬ (c.toNat : Int) < 128 := by omega
      have g1 : 194 ≤ (c.toNat : Int) := by omega
      have g2 : ¬ (c.toNat : Int) < 224 := by omega
      have g3 : 224 ≤ (c.toNat : Int) := by omega
      have g4 : (c.toNat : Int) < 240 := by omega
      have w2 := wrapI ((c.toNat : Int) - 224) (by omega) (by omega)
      clear h1 h2 hnI hbI hlI
    case' inr.inr.inr.inl =>
      obtain ⟨n, hnI⟩ : ∃ n : Nat, n = 4 := ⟨_, rfl⟩
      obtain ⟨b, hbI⟩ : ∃ b : Nat, b = c.toNat - 240 := ⟨_, rfl⟩
      obtain ⟨least, hlI⟩ : ∃ b : Nat, b = 65536 := ⟨_, rfl⟩
      have hb7 : b < 128 := by omega
      have hn4 : n ≤ 4 := by omega
      have h0 : ¬ n = 0 := by omega
      rw [← hnI, ← hbI, ← hlI] at hq
      have n1 : (n : Int) = 4 := by omega
      have n2 : (b : Int) = (c.toNat : Int) - 240 := by omega
      have n3 : (least : Int) = 65536 := by omega
      have g0 : ¬ (c.toNat : Int) < 128 := by omega
      have g1 : 194 ≤ (c.toNat : Int) := by omega
      have g2 : ¬ (c.toNat : Int) < 224 := by omega
      have g3 : 224 ≤ (c.toNat : Int) := by omega
      have g4 : ¬ (c.toNat : Int) < 240 := by omega
      have g5 : 240 ≤ (c.toNat : Int) := by omega
      have g6 : (c.toNat : Int) < 245 := by omega
      have w2 := wrapI ((c.toNat : Int) - 240) (by omega) (by omega)
      clear h1 h2 hnI hbI hlI
    rotate_left 3
    · have h1' : ¬ (c.toNat : Int) < 128 := by omega
      by_cases h3 : (c.toNat : Int) < 194
      · have g1 : ¬ 194 ≤ (c.toNat : Int) := by omega
        have g2 : ¬ 224 ≤ (c.toNat : Int) := by omega
        have g3 : ¬ 240 ≤ (c.toNat : Int) := by omega
        repeat (first | (with_reducible first | refine seq_k fun K hK => ?_ | refine pwp_block ?_ | refine pwp_skip ?_ | refine pwp_ret ?_ | refine pwp_exit ?_ | refine then_n ?_ | refine then_r ?_ | refine then_e ?_ | refine then_g ?_ | refine inB_n ?_ | refine inB_r ?_ | refine inB_e ?_ | refine inB_o rfl ?_ | refine inB_g ?_ | refine Leads.go (by assumption) ?_) | (with_reducible refine region_k fun K hK => ?_; simp [*]) | (with_reducible refine region_drawT_k mixedO (by decide +kernel) fun K hK => ?_; simp [*]) | (with_reducible refine region_tame_a mixedO (by decide +kernel) fun K hK => ?_; simp [*, Low, isLoadB, isTameB, List.range_succ, List.range']) | (with_reducible refine cond_t ?_ ?_; (focus (simp [*]; done))) | (with_reducible refine cond_f ?_ ?_; (focus (simp [*]; done))))
        simp [*, nextD]
      · have g1 : ¬ (c.toNat : Int) < 224 := by omega
        have g2 : ¬ (c.toNat : Int) < 240 := by omega
        have g3 : ¬ (c.toNat : Int) < 245 := by omega
        have g4 : 194 ≤ (c.toNat : Int) := by omega
        have g5 : 224 ≤ (c.toNat : Int) := by omega
        have g6 : 240 ≤ (c.toNat : Int) := by omega
        repeat (first | (with_reducible first | refine seq_k fun K hK => ?_ | refine pwp_block ?_ | refine pwp_skip ?_ | refine pwp_ret ?_ | refine pwp_exit ?_ | refine then_n ?_ | refine then_r ?_ | refine then_e ?_ | refine then_g ?_ | refine inB_n ?_ | refine inB_r ?_ | refine inB_e ?_ | refine inB_o rfl ?_ | refine inB_g ?_ | refine Leads.go (by assumption) ?_) | (with_reducible refine region_k fun K hK => ?_; simp [*]) | (with_reducible refine region_drawT_k mixedO (by decide +kernel) fun K hK => ?_; simp [*]) | (with_reducible refine region_tame_a mixedO (by decide +kernel) fun K hK => ?_; simp [*, Low, isLoadB, isTameB, List.range_succ, List.range']) | (with_reducible refine cond_t ?_ ?_; (focus (simp [*]; done))) | (with_reducible refine cond_f ?_ ?_; (focus (simp [*]; done))))
        simp [*, nextD]
    all_goals
      have hNx : nextM (c :: t) = if n = 0 ∨ t.length + 1 < n then none
        else if (t.take (n - 1)).all cont = false then none
        else if badC (accum b (t.take (n - 1))) least then none
        else some (accum b (t.take (n - 1)), n) := by rw [nextM, hq]
      have n4 : (n : Int) = n := rfl
      by_cases h2 : (t.length : Int) + 1 < (n : Int)
      · have h3 : n = 0 ∨ t.length + 1 < n := by omega
        rw [if_pos h3] at hNx
        rw [n1] at h2
        clear n4 hq
        repeat (first | (with_reducible first | refine seq_k fun K hK => ?_ | refine pwp_block ?_ | refine pwp_skip ?_ | refine pwp_ret ?_ | refine pwp_exit ?_ | refine then_n ?_ | refine then_r ?_ | refine then_e ?_ | refine then_g ?_ | refine inB_n ?_ | refine inB_r ?_ | refine inB_e ?_ | refine inB_o rfl ?_ | refine inB_g ?_ | refine Leads.go (by assumption) ?_) | (with_reducible refine region_k fun K hK => ?_; simp [*]) | (with_reducible refine region_drawT_k mixedO (by decide +kernel) fun K hK => ?_; simp [*]) | (with_reducible refine region_tame_a mixedO (by decide +kernel) fun K hK => ?_; simp [*, Low, isLoadB, isTameB, List.range_succ, List.range']) | (with_reducible refine cond_t ?_ ?_; (focus (simp [*]; done))) | (with_reducible refine cond_f ?_ ?_; (focus (simp [*]; done))))
        simp [*, nextD]
      · have h3 : ¬ (n = 0 ∨ t.length + 1 < n) := by omega
        have h4 : ¬ t.length + 1 < n := by omega
        rw [if_neg h3] at hNx
        rw [n1] at h2
        clear n4 hq h3
        repeat (first | (with_reducible first | refine seq_k fun K hK => ?_ | refine pwp_block ?_ | refine pwp_skip ?_ | refine pwp_ret ?_ | refine pwp_exit ?_ | refine then_n ?_ | refine then_r ?_ | refine then_e ?_ | refine then_g ?_ | refine inB_n ?_ | refine inB_r ?_ | refine inB_e ?_ | refine inB_o rfl ?_ | refine inB_g ?_ | refine Leads.go (by assumption) ?_) | (with_reducible refine region_k fun K hK => ?_; simp [*]) | (with_reducible refine region_drawT_k mixedO (by decide +kernel) fun K hK => ?_; simp [*]) | (with_reducible refine region_tame_a mixedO (by decide +kernel) fun K hK => ?_; simp [*, Low, isLoadB, isTameB, List.range_succ, List.range']) | (with_reducible refine cond_t ?_ ?_; (focus (simp [*]; done))) | (with_reducible refine cond_f ?_ ?_; (focus (simp [*]; done))))
        have hfin : ∀ k, k ≤ n - 1 → accum b (t.take k) < 33554432 := fun k hk => accum_small b _ hb7 (by simp; omega)
        refine pwp_for ((n - 1)) (fun k st => st.env.n = 88 ∧ st.df = [] ∧ st.H = H ∧ st.env.get 0 = sD (c :: t) ∧ st.env.get 5 = .val (.int .i64 (n : Nat)) ∧ st.env.get 6 = .val (.int .i64 (least : Nat)) ∧ st.env.get 4 = .val (.int .i64 ((accum b (t.take k) : Nat) : Int)) ∧ st.env.get 7 = .val (.int .i64 ((k : Int) + 1)) ∧ (Hold ((t.take k).all cont = true))) ⟨by first | (simp; done) | (simp [*]; done), rfl, by first | rfl | simp, by first | (simp; done) | (simp [*]; done), by first | (simp; done) | (simp [*]; done), by first | (simp; done) | (simp [*]; done), by first | (simp; done) | (simp [*]; done), by first | (simp; done) | (simp [*]; done), by first | done | exact ⟨by simp⟩ | simp⟩ ?_ ?_
        · rintro k ⟨E, Hx, df⟩ hk ⟨en, edf, eH, e0, e5, e6, e4, e7, eP⟩
          simp only at en edf eH e0 e5 e6 e4 e7
          subst edf; replace eH := eH.symm; subst eH
          have hki : (k : Int) < (((n - 1) : Nat) : Int) := by omega
          have hkw := wrapSucc k (by omega)
          clear n1 n2 n3 g0 g1 g2
          obtain ⟨x, hx⟩ : ∃ x, t[k]? = some x := ⟨_, List.getElem?_eq_getElem (by omega)⟩
          have hlt : (k : Int) + 1 < (n : Int) := by omega
          have hk2 : (k : Int) < (t.length : Int) := by omega
          have hk3 : 0 ≤ (k : Int) + 1 := by omega
          have bx : byteAt (c :: t) (k + 1) = (x.toNat : Int) := byteAt_of (by simpa using hx)
          have hs := all_take_succ cont t k x hx
          have ha := accum_take b t k x hx
          have hf := hfin k (by omega)
          have hxl := x.toNat_lt
          rw [eP.out, Bool.true_and] at hs
          obtain ⟨v, hv⟩ : ∃ v, accum b (t.take k) = v := ⟨_, rfl⟩
          rw [hv] at ha hf e4
          have v1 := wrapI (x.toNat : Int) (by omega) (by omega)
          by_cases hcx : cont x = true
          · have hd : x.toNat / 64 = 2 := by simpa [cont] using hcx
            have q1 : ¬ (x.toNat : Int) < 128 := by omega
            have q2 : ¬ 191 < (x.toNat : Int) := by omega
            have v2 := wrapI ((v : Int) * 64) (by omega) (by omega)
            have v3 := wrapI ((v : Int) * 64 + (x.toNat : Int)) (by omega) (by omega)
            have v4 : IntKind.i64.wrap ((v : Int) * 64 + (x.toNat : Int) - 128) = ((v * 64 + x.toNat % 64 : Nat) : Int) := by rw [wrapI _ (by omega) (by omega)]; omega
            have hw2 := wrapI ((k : Int) + 1 + 1) (by omega) (by omega)
            rw [hcx] at hs
            have hs' := Hold.mk hs
            clear hs hv hd
            repeat (first | (with_reducible first | refine seq_k fun K hK => ?_ | refine pwp_block ?_ | refine pwp_skip ?_ | refine pwp_ret ?_ | refine pwp_exit ?_ | refine then_n ?_ | refine then_r ?_ | refine then_e ?_ | refine then_g ?_ | refine inB_n ?_ | refine inB_r ?_ | refine inB_e ?_ | refine inB_o rfl ?_ | refine inB_g ?_ | refine Leads.go (by assumption) ?_) | (with_reducible refine region_k fun K hK => ?_; simp [*]) | (with_reducible refine region_drawT_k mixedO (by decide +kernel) fun K hK => ?_; simp [*]) | (with_reducible refine region_tame_a mixedO (by decide +kernel) fun K hK => ?_; simp [*, Low, isLoadB, isTameB, List.range_succ, List.range']) | (with_reducible refine cond_t ?_ ?_; (focus (simp [*]; done))) | (with_reducible refine cond_f ?_ ?_; (focus (simp [*]; done))))
            simp [*]
            exact ⟨by simpa using hs'.out⟩
          · have hcx' : cont x = false := by simpa using hcx
            have hd : ¬ x.toNat / 64 = 2 := by simpa [cont] using hcx
            have h5 : (t.take (n - 1)).all cont = false := by
              cases hq : (t.take (n - 1)).all cont with
              | false => rfl
              | true => have := List.all_eq_true.1 hq x (List.mem_of_getElem? (by rw [List.getElem?_take_of_lt (by omega)]; exact hx)); rw [hcx'] at this; cases this
            rw [if_pos h5] at hNx
            by_cases q1 : (x.toNat : Int) < 128
            · repeat (first | (with_reducible first | refine seq_k fun K hK => ?_ | refine pwp_block ?_ | refine pwp_skip ?_ | refine pwp_ret ?_ | refine pwp_exit ?_ | refine then_n ?_ | refine then_r ?_ | refine then_e ?_ | refine then_g ?_ | refine inB_n ?_ | refine inB_r ?_ | refine inB_e ?_ | refine inB_o rfl ?_ | refine inB_g ?_ | refine Leads.go (by assumption) ?_) | (with_reducible refine region_k fun K hK => ?_; simp [*]) | (with_reducible refine region_drawT_k mixedO (by decide +kernel) fun K hK => ?_; simp [*]) | (with_reducible refine region_tame_a mixedO (by decide +kernel) fun K hK => ?_; simp [*, Low, isLoadB, isTameB, List.range_succ, List.range']) | (with_reducible refine cond_t ?_ ?_; (focus (simp [*]; done))) | (with_reducible refine cond_f ?_ ?_; (focus (simp [*]; done))))
              simp [*, nextD]
            · have q2 : 191 < (x.toNat : Int) := by omega
              repeat (first | (with_reducible first | refine seq_k fun K hK => ?_ | refine pwp_block ?_ | refine pwp_skip ?_ | refine pwp_ret ?_ | refine pwp_exit ?_ | refine then_n ?_ | refine then_r ?_ | refine then_e ?_ | refine then_g ?_ | refine inB_n ?_ | refine inB_r ?_ | refine inB_e ?_ | refine inB_o rfl ?_ | refine inB_g ?_ | refine Leads.go (by assumption) ?_) | (with_reducible refine region_k fun K hK => ?_; simp [*]) | (with_reducible refine region_drawT_k mixedO (by decide +kernel) fun K hK => ?_; simp [*]) | (with_reducible refine region_tame_a mixedO (by decide +kernel) fun K hK => ?_; simp [*, Low, isLoadB, isTameB, List.range_succ, List.range']) | (with_reducible refine cond_t ?_ ?_; (focus (simp [*]; done))) | (with_reducible refine cond_f ?_ ?_; (focus (simp [*]; done))))
              simp [*, nextD]
        · rintro ⟨E, Hx, df⟩ ⟨en, edf, eH, e0, e5, e6, e4, e7, eP⟩
          simp only at en edf eH e0 e5 e6 e4 e7
          subst edf; replace eH := eH.symm; subst eH
          clear n1 n2 n3 g0 g1 g2
          have h5 := eP.out
          have h6 : ¬ (t.take (n - 1)).all cont = false := by rw [h5]; simp
          rw [if_neg h6] at hNx
          have hlt : ¬ ((n - 1 : Nat) : Int) + 1 < (n : Int) := by omega
          have hf := hfin (n - 1) (Nat.le_refl _)
          obtain ⟨v, hv⟩ : ∃ v, accum b (t.take (n - 1)) = v := ⟨_, rfl⟩
          rw [hv] at hNx e4 hf
          have v1 := wrapR (v : Int) (by omega) (by omega)
          clear h5 h6 hv eP hfin
          by_cases g1 : (v : Int) < (least : Int)
          · have hb : badC v least = true := by simp [badC]; omega
            rw [if_pos hb] at hNx
            repeat (first | (with_reducible first | refine seq_k fun K hK => ?_ | refine pwp_block ?_ | refine pwp_skip ?_ | refine pwp_ret ?_ | refine pwp_exit ?_ | refine then_n ?_ | refine then_r ?_ | refine then_e ?_ | refine then_g ?_ | refine inB_n ?_ | refine inB_r ?_ | refine inB_e ?_ | refine inB_o rfl ?_ | refine inB_g ?_ | refine Leads.go (by assumption) ?_) | (with_reducible refine region_k fun K hK => ?_; simp [*]) | (with_reducible refine region_drawT_k mixedO (by decide +kernel) fun K hK => ?_; simp [*]) | (with_reducible refine region_tame_a mixedO (by decide +kernel) fun K hK => ?_; simp [*, Low, isLoadB, isTameB, List.range_succ, List.range']) | (with_reducible refine cond_t ?_ ?_; (focus (simp [*]; done))) | (with_reducible refine cond_f ?_ ?_; (focus (simp [*]; done))))
            simp [*, nextD]
          · by_cases g3 : 55296 ≤ (v : Int)
            · by_cases g4 : (v : Int) ≤ 57343
              · have hb : badC v least = true := by simp [badC]; omega
                rw [if_pos hb] at hNx
                repeat (first | (with_reducible first | refine seq_k fun K hK => ?_ | refine pwp_block ?_ | refine pwp_skip ?_ | refine pwp_ret ?_ | refine pwp_exit ?_ | refine then_n ?_ | refine then_r ?_ | refine then_e ?_ | refine then_g ?_ | refine inB_n ?_ | refine inB_r ?_ | refine inB_e ?_ | refine inB_o rfl ?_ | refine inB_g ?_ | refine Leads.go (by assumption) ?_) | (with_reducible refine region_k fun K hK => ?_; simp [*]) | (with_reducible refine region_drawT_k mixedO (by decide +kernel) fun K hK => ?_; simp [*]) | (with_reducible refine region_tame_a mixedO (by decide +kernel) fun K hK => ?_; simp [*, Low, isLoadB, isTameB, List.range_succ, List.range']) | (with_reducible refine cond_t ?_ ?_; (focus (simp [*]; done))) | (with_reducible refine cond_f ?_ ?_; (focus (simp [*]; done))))
                simp [*, nextD]
              · by_cases g2 : 1114111 < (v : Int)
                · have hb : badC v least = true := by simp [badC]; omega
                  rw [if_pos hb] at hNx
                  repeat (first | (with_reducible first | refine seq_k fun K hK => ?_ | refine pwp_block ?_ | refine pwp_skip ?_ | refine pwp_ret ?_ | refine pwp_exit ?_ | refine then_n ?_ | refine then_r ?_ | refine then_e ?_ | refine then_g ?_ | refine inB_n ?_ | refine inB_r ?_ | refine inB_e ?_ | refine inB_o rfl ?_ | refine inB_g ?_ | refine Leads.go (by assumption) ?_) | (with_reducible refine region_k fun K hK => ?_; simp [*]) | (with_reducible refine region_drawT_k mixedO (by decide +kernel) fun K hK => ?_; simp [*]) | (with_reducible refine region_tame_a mixedO (by decide +kernel) fun K hK => ?_; simp [*, Low, isLoadB, isTameB, List.range_succ, List.range']) | (with_reducible refine cond_t ?_ ?_; (focus (simp [*]; done))) | (with_reducible refine cond_f ?_ ?_; (focus (simp [*]; done))))
                  simp [*, nextD]
                · have hb : ¬ badC v least = true := by simp [badC]; omega
                  rw [if_neg hb] at hNx
                  repeat (first | (with_reducible first | refine seq_k fun K hK => ?_ | refine pwp_block ?_ | refine pwp_skip ?_ | refine pwp_ret ?_ | refine pwp_exit ?_ | refine then_n ?_ | refine then_r ?_ | refine then_e ?_ | refine then_g ?_ | refine inB_n ?_ | refine inB_r ?_ | refine inB_e ?_ | refine inB_o rfl ?_ | refine inB_g ?_ | refine Leads.go (by assumption) ?_) | (with_reducible refine region_k fun K hK => ?_; simp [*]) | (with_reducible refine region_drawT_k mixedO (by decide +kernel) fun K hK => ?_; simp [*]) | (with_reducible refine region_tame_a mixedO (by decide +kernel) fun K hK => ?_; simp [*, Low, isLoadB, isTameB, List.range_succ, List.range']) | (with_reducible refine cond_t ?_ ?_; (focus (simp [*]; done))) | (with_reducible refine cond_f ?_ ?_; (focus (simp [*]; done))))
                  simp [*, nextD]
            · have g2 : ¬ 1114111 < (v : Int) := by omega
              have hb : ¬ badC v least = true := by simp [badC]; omega
              rw [if_neg hb] at hNx
              repeat (first | (with_reducible first | refine seq_k fun K hK => ?_ | refine pwp_block ?_ | refine pwp_skip ?_ | refine pwp_ret ?_ | refine pwp_exit ?_ | refine then_n ?_ | refine then_r ?_ | refine then_e ?_ | refine then_g ?_ | refine inB_n ?_ | refine inB_r ?_ | refine inB_e ?_ | refine inB_o rfl ?_ | refine inB_g ?_ | refine Leads.go (by assumption) ?_) | (with_reducible refine region_k fun K hK => ?_; simp [*]) | (with_reducible refine region_drawT_k mixedO (by decide +kernel) fun K hK => ?_; simp [*]) | (with_reducible refine region_tame_a mixedO (by decide +kernel) fun K hK => ?_; simp [*, Low, isLoadB, isTameB, List.range_succ, List.range']) | (with_reducible refine cond_t ?_ ?_; (focus (simp [*]; done))) | (with_reducible refine cond_f ?_ ?_; (focus (simp [*]; done))))
              simp [*, nextD]
set_option maxHeartbeats 4000000 in
set_option maxRecDepth 100000 in
theorem rCount_spec (l : By) (hl : l.length ≤ 100000) (H : Heap) : PCalls Tryz.prog 27 [sD l] H fun d H' => d = .val (.int .i64 (countM l)) ∧ H' = H := by
  refine PCalls.of_pwp Tryz.call27 Tryz.func27 rfl (by simp [Tryz.ntmps27]) ?_
  rw [Tryz.ntmps27]
  repeat (first | (with_reducible first | refine seq_k fun K hK => ?_ | refine pwp_block ?_ | refine pwp_skip ?_ | refine pwp_ret ?_ | refine pwp_exit ?_ | refine then_n ?_ | refine then_r ?_ | refine then_e ?_ | refine then_g ?_ | refine inB_n ?_ | refine inB_r ?_ | refine inB_e ?_ | refine inB_o rfl ?_ | refine inB_g ?_ | refine Leads.go (by assumption) ?_) | (with_reducible refine region_k fun K hK => ?_; simp [*]) | (with_reducible refine region_drawT_k mixedO (by decide +kernel) fun K hK => ?_; simp [*]) | (with_reducible refine region_tame_a mixedO (by decide +kernel) fun K hK => ?_; simp [*, Low, isLoadB, isTameB, List.range_succ, List.range']) | (with_reducible refine cond_t ?_ ?_; (focus (simp [*]; done))) | (with_reducible refine cond_f ?_ ?_; (focus (simp [*]; done))))
  refine pwp_loop (fun m st => ∃ r cs, m = r.length ∧ st.env.n = 22 ∧ st.df = [] ∧ st.H = H ∧ st.env.get 0 = sD r ∧ st.env.get 3 = .val (.int .i64 ((cs.length : Nat) : Int)) ∧ Left l cs r) l.length ⟨l, [], rfl, by simp, by simp, by simp, by simp, by simp, Left.start l⟩ ?_
  rintro m ⟨E, Hx, df⟩ ⟨r, cs, rfl, en, edf, eH, e0, e3, hL⟩
  simp only at en edf eH e0 e3
  subst edf; subst eH
  by_cases hr : r = []
  · subst hr
    have hc := hL.last
    have hcm : countM l = cs.length := by rw [countM, hc]
    repeat (first | (with_reducible first | refine seq_k fun K hK => ?_ | refine pwp_block ?_ | refine pwp_skip ?_ | refine pwp_ret ?_ | refine pwp_exit ?_ | refine then_n ?_ | refine then_r ?_ | refine then_e ?_ | refine then_g ?_ | refine inB_n ?_ | refine inB_r ?_ | refine inB_e ?_ | refine inB_o rfl ?_ | refine inB_g ?_ | refine Leads.go (by assumption) ?_) | (with_reducible refine region_k fun K hK => ?_; simp [*]) | (with_reducible refine region_drawT_k mixedO (by decide +kernel) fun K hK => ?_; simp [*]) | (with_reducible refine region_tame_a mixedO (by decide +kernel) fun K hK => ?_; simp [*, Low, isLoadB, isTameB, List.range_succ, List.range']) | (with_reducible refine cond_t ?_ ?_; (focus (simp [*]; done))) | (with_reducible refine cond_f ?_ ?_; (focus (simp [*]; done))))
    simp [*]
  · have hlen := hL.2
    have hr' : 0 < r.length := List.length_pos_iff.2 hr
    repeat (first | (with_reducible first | refine seq_k fun K hK => ?_ | refine pwp_block ?_ | refine pwp_skip ?_ | refine pwp_ret ?_ | refine pwp_exit ?_ | refine then_n ?_ | refine then_r ?_ | refine then_e ?_ | refine then_g ?_ | refine inB_n ?_ | refine inB_r ?_ | refine inB_e ?_ | refine inB_o rfl ?_ | refine inB_g ?_ | refine Leads.go (by assumption) ?_) | (with_reducible refine region_k fun K hK => ?_; simp [*]) | (with_reducible refine region_drawT_k mixedO (by decide +kernel) fun K hK => ?_; simp [*]) | (with_reducible refine region_tame_a mixedO (by decide +kernel) fun K hK => ?_; simp [*, Low, isLoadB, isTameB, List.range_succ, List.range']) | (with_reducible refine cond_t ?_ ?_; (focus (simp [*]; done))) | (with_reducible refine cond_f ?_ ?_; (focus (simp [*]; done))))
    refine PCalls.mono (rNext_spec r (by omega) _) ?_
    intro d3 H3 hd3
    rw [hd3.1, hd3.2]
    clear hd3
    try simp [*]
    cases hn : nextM r with
    | none =>
      have hc := hL.none hr hn
      have hcm : countM l = -1 := by rw [countM, hc]
      simp only [nextD, Option.getD_none]
      try simp [*]
      repeat (first | (with_reducible first | refine seq_k fun K hK => ?_ | refine pwp_block ?_ | refine pwp_skip ?_ | refine pwp_ret ?_ | refine pwp_exit ?_ | refine then_n ?_ | refine then_r ?_ | refine then_e ?_ | refine then_g ?_ | refine inB_n ?_ | refine inB_r ?_ | refine inB_e ?_ | refine inB_o rfl ?_ | refine inB_g ?_ | refine Leads.go (by assumption) ?_) | (with_reducible refine region_k fun K hK => ?_; simp [*]) | (with_reducible refine region_drawT_k mixedO (by decide +kernel) fun K hK => ?_; simp [*]) | (with_reducible refine region_tame_a mixedO (by decide +kernel) fun K hK => ?_; simp [*, Low, isLoadB, isTameB, List.range_succ, List.range']) | (with_reducible refine cond_t ?_ ?_; (focus (simp [*]; done))) | (with_reducible refine cond_f ?_ ?_; (focus (simp [*]; done))))
      simp [*]
    | some p =>
      obtain ⟨v, n⟩ := p
      have hs := hL.step hr hn
      have hk := nextM_len hn
      have hn0 : ¬ n = 0 := by omega
      have hnl : (n : Int) ≤ (r.length : Int) := by omega
      have hnl2 : n ≤ r.length := by omega
      have hw := wrapI ((cs.length : Int) + 1) (by omega) (by omega)
      simp only [nextD, Option.getD_some]
      have hsH := Hold.mk hs
      clear hs
      try simp [*]
      repeat (first | (with_reducible first | refine seq_k fun K hK => ?_ | refine pwp_block ?_ | refine pwp_skip ?_ | refine pwp_ret ?_ | refine pwp_exit ?_ | refine then_n ?_ | refine then_r ?_ | refine then_e ?_ | refine then_g ?_ | refine inB_n ?_ | refine inB_r ?_ | refine inB_e ?_ | refine inB_o rfl ?_ | refine inB_g ?_ | refine Leads.go (by assumption) ?_) | (with_reducible refine region_k fun K hK => ?_; simp [*]) | (with_reducible refine region_drawT_k mixedO (by decide +kernel) fun K hK => ?_; simp [*]) | (with_reducible refine region_tame_a mixedO (by decide +kernel) fun K hK => ?_; simp [*, Low, isLoadB, isTameB, List.range_succ, List.range']) | (with_reducible refine cond_t ?_ ?_; (focus (simp [*]; done))) | (with_reducible refine cond_f ?_ ?_; (focus (simp [*]; done))))
      refine ⟨(r.drop n).length, by simp; omega, r.drop n, cs ++ [(v, r.take n)], ?_⟩
      simp [*]
      simpa using hsH.out
end Go.Pv
