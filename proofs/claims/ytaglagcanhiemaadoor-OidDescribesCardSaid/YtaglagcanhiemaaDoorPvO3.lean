/- A part of the proof: functions of the program, walked, or what operations come to. -/
import Derived.Test.YtaglagcanhiemaaDoorPvO2
import Derived.Test.YtaglagcanhiemaaDoorPvN3
-- ZpvTameA ZpvDrawT
namespace Go.Pv
open Go.Proofs
attribute [-simp] eLen UInt8.ofNat_add

set_option maxHeartbeats 4000000 in
set_option maxRecDepth 100000 in
theorem seven_spec (d0 : D) (l : By) (n : Nat) (hn : n < 100000000000000) (hl : l.length ≤ 100000) (H : Heap) (hG : Grow H d0 5 (l.map byD)) : PCalls Tryd.prog 22 [d0, .val (.int .i64 (n : Nat))] H fun d H' => Grow H' d 5 ((l ++ sev n).map byD) ∧ H.nx ≤ H'.nx ∧ H'.G = H.G ∧ ∀ j, j < H.nx → NotIt d0 j → H'.get j = H.get j ∧ NotIt d j := by
  refine PCalls.of_pwp Tryd.call22 Tryd.func22 rfl (by simp [Tryd.ntmps22]) ?_
  rw [Tryd.ntmps22]
  repeat (first | with_reducible refine seq_k fun K hK => ?_ | (with_reducible refine region_k fun K hK => ?_; simp [*]) | (with_reducible refine region_drawT_k mixedO (by decide +kernel) fun K hK => ?_; simp [*]) | (with_reducible refine region_tame_a mixedO (by decide +kernel) fun K hK => ?_; simp [*, Low, isLoadB, isTameB, List.range_succ, List.range']) | with_reducible refine pwp_block ?_ | with_reducible refine pwp_skip ?_ | with_reducible refine pwp_ret ?_ | with_reducible refine pwp_exit ?_ | (with_reducible refine cond_t ?_ ?_; (focus (simp [*]; done))) | (with_reducible refine cond_f ?_ ?_; (focus (simp [*]; done))) | with_reducible refine then_n ?_ | with_reducible refine then_r ?_ | with_reducible refine then_e ?_ | with_reducible refine then_g ?_ | with_reducible refine inB_n ?_ | with_reducible refine inB_r ?_ | with_reducible refine inB_e ?_ | with_reducible refine inB_o rfl ?_ | with_reducible refine inB_g ?_ | with_reducible refine Leads.go (by assumption) ?_)
  have hc9 := cnt_le n (by omega)
  refine pwp_for (cnt n) (fun k st => st.env.n = 30 ∧ st.df = [] ∧ st.H = H ∧ st.env.get 0 = d0 ∧ st.env.get 1 = .val (.int .i64 (n : Nat)) ∧ st.env.get 5 = .val (.int .i64 ((7 * k : Nat) : Int))) ⟨by first | (simp; done) | (simp [*]; done), rfl, by first | rfl | simp, by first | (simp; done) | (simp [*]; done), by first | (simp; done) | (simp [*]; done), by first | (simp; done) | (simp [*]; done)⟩ ?_ ?_
  · rintro k ⟨E, Hx, df⟩ hk ⟨en, edf, eH, e0, e1, e5⟩
    simp only at en edf eH e0 e1 e5
    subst edf; replace eH := eH.symm; subst eH
    have hki : (k : Int) < ((cnt n : Nat) : Int) := by omega
    have hkw := wrapSucc k (by omega)
    have hs := cnt_step n k hk
    obtain ⟨q, hq⟩ : ∃ q, n / 128 ^ k = q := ⟨_, rfl⟩
    rw [hq] at hs
    have sh := shr7 n k q hq (by omega)
    have s1 : 128 ≤ (q : Int) := by omega
    have s2 : 0 ≤ 7 * (k : Int) := by omega
    have s3 := wrapI (7 * (k : Int) + 7) (by omega) (by omega)
    repeat (first | with_reducible refine seq_k fun K hK => ?_ | (with_reducible refine region_k fun K hK => ?_; simp [*]) | (with_reducible refine region_drawT_k mixedO (by decide +kernel) fun K hK => ?_; simp [*]) | (with_reducible refine region_tame_a mixedO (by decide +kernel) fun K hK => ?_; simp [*, Low, isLoadB, isTameB, List.range_succ, List.range']) | with_reducible refine pwp_block ?_ | with_reducible refine pwp_skip ?_ | with_reducible refine pwp_ret ?_ | with_reducible refine pwp_exit ?_ | (with_reducible refine cond_t ?_ ?_; (focus (simp [*]; done))) | (with_reducible refine cond_f ?_ ?_; (focus (simp [*]; done))) | with_reducible refine then_n ?_ | with_reducible refine then_r ?_ | with_reducible refine then_e ?_ | with_reducible refine then_g ?_ | with_reducible refine inB_n ?_ | with_reducible refine inB_r ?_ | with_reducible refine inB_e ?_ | with_reducible refine inB_o rfl ?_ | with_reducible refine inB_g ?_ | with_reducible refine Leads.go (by assumption) ?_)
    simp [*]
    omega
  · rintro ⟨E, Hx, df⟩ ⟨en, edf, eH, e0, e1, e5⟩
    simp only at en edf eH e0 e1 e5
    subst edf; replace eH := eH.symm; subst eH
    have hs := cnt_last n
    obtain ⟨q, hq⟩ : ∃ q, n / 128 ^ cnt n = q := ⟨_, rfl⟩
    rw [hq] at hs
    have sh := shr7 n (cnt n) q hq (by omega)
    have s1 : ¬ 128 ≤ (q : Int) := by omega
    have s2 : 0 ≤ 7 * (cnt n : Int) := by omega
    repeat (first | with_reducible refine seq_k fun K hK => ?_ | (with_reducible refine region_k fun K hK => ?_; simp [*]) | (with_reducible refine region_drawT_k mixedO (by decide +kernel) fun K hK => ?_; simp [*]) | (with_reducible refine region_tame_a mixedO (by decide +kernel) fun K hK => ?_; simp [*, Low, isLoadB, isTameB, List.range_succ, List.range']) | with_reducible refine pwp_block ?_ | with_reducible refine pwp_skip ?_ | with_reducible refine pwp_ret ?_ | with_reducible refine pwp_exit ?_ | (with_reducible refine cond_t ?_ ?_; (focus (simp [*]; done))) | (with_reducible refine cond_f ?_ ?_; (focus (simp [*]; done))) | with_reducible refine then_n ?_ | with_reducible refine then_r ?_ | with_reducible refine then_e ?_ | with_reducible refine then_g ?_ | with_reducible refine inB_n ?_ | with_reducible refine inB_r ?_ | with_reducible refine inB_e ?_ | with_reducible refine inB_o rfl ?_ | with_reducible refine inB_g ?_ | with_reducible refine Leads.go (by assumption) ?_)
    clear hq sh hs s1 s2
    refine pwp_for (cnt n) (fun k st => st.env.n = 30 ∧ st.df = [] ∧ st.env.get 1 = .val (.int .i64 (n : Nat)) ∧ st.env.get 5 = .val (.int .i64 ((7 * (cnt n - k) : Nat) : Int)) ∧ (∃ d', st.env.get 0 = d' ∧ Grow st.H d' 5 ((l ++ hiB (n / 128 ^ (cnt n - k + 1))).map byD) ∧ H.nx ≤ st.H.nx ∧ st.H.G = H.G ∧ ∀ j, j < H.nx → NotIt d0 j → st.H.get j = H.get j ∧ NotIt d' j)) ⟨by first | (simp; done) | (simp [*]; done), rfl, by first | (simp; done) | (simp [*]; done), by first | (simp; done) | (simp [*]; done), ?_⟩ ?_ ?_
    · refine ⟨d0, by simp [*], ?_, by simp, by simp, fun j hj hn => ⟨rfl, hn⟩⟩
      simp only [Nat.sub_zero]
      rw [hi_last, List.append_nil]; exact hG
    · rintro k ⟨E, Hx, df⟩ hk ⟨en, edf, e1, e5, eP⟩
      simp only at en edf e1 e5
      subst edf
      have hki : (k : Int) < ((cnt n : Nat) : Int) := by omega
      have hkw := wrapSucc k (by omega)
      obtain ⟨d', e0, hG', hnx, hHG, hfr⟩ := eP
      simp only at e0 hG' hnx hHG hfr
      obtain ⟨j, hj⟩ : ∃ j, cnt n - k = j := ⟨_, rfl⟩
      have hj1 : cnt n - (k + 1) = j - 1 := by omega
      rw [hj] at e5 hG'
      obtain ⟨q, hq⟩ : ∃ q, n / 128 ^ j = q := ⟨_, rfl⟩
      have sh := shr7 n j q hq (by omega)
      have s1 : 0 < 7 * (j : Int) := by omega
      have s2 : 0 ≤ 7 * (j : Int) := by omega
      have s3 : IntKind.i64.wrap (7 * (j : Int) - 7) = ((7 * (j - 1) : Nat) : Int) := by rw [wrapI _ (by omega) (by omega)]; omega
      have hst := hi_step n j (by omega) (by omega)
      rw [hq] at hst
      have ho := u8_or q
      have hln := hiB_len (n / 128 ^ (j + 1))
      have hln2 : n / 128 ^ (j + 1) ≤ n := Nat.div_le_self _ _
      have kp := Hold.mk (And.intro hfr (And.intro hnx hHG))
      clear hfr hln2 hln
      repeat (first | with_reducible refine seq_k fun K hK => ?_ | (with_reducible refine region_k fun K hK => ?_; simp [*]) | (with_reducible refine region_drawT_k mixedO (by decide +kernel) fun K hK => ?_; simp [*]) | (with_reducible refine region_tame_a mixedO (by decide +kernel) fun K hK => ?_; simp [*, Low, isLoadB, isTameB, List.range_succ, List.range']) | with_reducible refine pwp_block ?_ | with_reducible refine pwp_skip ?_ | with_reducible refine pwp_ret ?_ | with_reducible refine pwp_exit ?_ | (with_reducible refine cond_t ?_ ?_; (focus (simp [*]; done))) | (with_reducible refine cond_f ?_ ?_; (focus (simp [*]; done))) | with_reducible refine then_n ?_ | with_reducible refine then_r ?_ | with_reducible refine then_e ?_ | with_reducible refine then_g ?_ | with_reducible refine inB_n ?_ | with_reducible refine inB_r ?_ | with_reducible refine inB_e ?_ | with_reducible refine inB_o rfl ?_ | with_reducible refine inB_g ?_ | with_reducible refine Leads.go (by assumption) ?_)
      refine oK_grow hG' ?_ ?_
      · (have := hiB_len (n / 128 ^ (j + 1)); have : n / 128 ^ (j + 1) ≤ n := Nat.div_le_self _ _; simp; omega)
      intro d2 H2 hG2 hn2 hH2 hf2
      try simp [*]
      have kp2 := Hold.mk hf2
      clear hf2
      repeat (first | with_reducible refine seq_k fun K hK => ?_ | (with_reducible refine region_k fun K hK => ?_; simp [*]) | (with_reducible refine region_drawT_k mixedO (by decide +kernel) fun K hK => ?_; simp [*]) | (with_reducible refine region_tame_a mixedO (by decide +kernel) fun K hK => ?_; simp [*, Low, isLoadB, isTameB, List.range_succ, List.range']) | with_reducible refine pwp_block ?_ | with_reducible refine pwp_skip ?_ | with_reducible refine pwp_ret ?_ | with_reducible refine pwp_exit ?_ | (with_reducible refine cond_t ?_ ?_; (focus (simp [*]; done))) | (with_reducible refine cond_f ?_ ?_; (focus (simp [*]; done))) | with_reducible refine then_n ?_ | with_reducible refine then_r ?_ | with_reducible refine then_e ?_ | with_reducible refine then_g ?_ | with_reducible refine inB_n ?_ | with_reducible refine inB_r ?_ | with_reducible refine inB_e ?_ | with_reducible refine inB_o rfl ?_ | with_reducible refine inB_g ?_ | with_reducible refine Leads.go (by assumption) ?_)
      simp [*]
      obtain ⟨hfr, hnx, hHG⟩ := kp.out
      have fr : ∀ i, i < H.nx → NotIt d0 i → H2.get i = H.get i ∧ NotIt d2 i := fun i hi hn => by
        have h1 := hfr i hi hn
        have h2 := kp2.out i (by omega) h1.2
        exact ⟨h2.1.trans h1.1, h2.2⟩
      first
      | exact fr
      | exact ⟨by rw [show j - 1 + 1 = j by omega, hq, hst]; simpa using hG2, by omega, hHG, fr⟩
      | exact ⟨by rw [show j - 1 + 1 = j by omega, hq, hst]; simpa using hG2, by omega, fr⟩
      | exact ⟨by rw [show j - 1 + 1 = j by omega, hq, hst]; simpa using hG2, fr⟩
      | exact ⟨by omega, fr⟩
    · rintro ⟨E, Hx, df⟩ ⟨en, edf, e1, e5, eP⟩
      simp only at en edf e1 e5
      subst edf
      obtain ⟨d', e0, hG', hnx, hHG, hfr⟩ := eP
      simp only [Nat.sub_self, Nat.mul_zero, Nat.zero_add, Nat.pow_one] at e0 hG' hnx hHG hfr e5
      have kp := Hold.mk (And.intro hfr (And.intro hnx hHG))
      clear hfr
      repeat (first | with_reducible refine seq_k fun K hK => ?_ | (with_reducible refine region_k fun K hK => ?_; simp [*]) | (with_reducible refine region_drawT_k mixedO (by decide +kernel) fun K hK => ?_; simp [*]) | (with_reducible refine region_tame_a mixedO (by decide +kernel) fun K hK => ?_; simp [*, Low, isLoadB, isTameB, List.range_succ, List.range']) | with_reducible refine pwp_block ?_ | with_reducible refine pwp_skip ?_ | with_reducible refine pwp_ret ?_ | with_reducible refine pwp_exit ?_ | (with_reducible refine cond_t ?_ ?_; (focus (simp [*]; done))) | (with_reducible refine cond_f ?_ ?_; (focus (simp [*]; done))) | with_reducible refine then_n ?_ | with_reducible refine then_r ?_ | with_reducible refine then_e ?_ | with_reducible refine then_g ?_ | with_reducible refine inB_n ?_ | with_reducible refine inB_r ?_ | with_reducible refine inB_e ?_ | with_reducible refine inB_o rfl ?_ | with_reducible refine inB_g ?_ | with_reducible refine Leads.go (by assumption) ?_)
      have ha := u8_and n
      try simp [*]
      refine oK_grow hG' ?_ ?_
      · (have := hiB_len (n / 128); simp; omega)
      intro d2 H2 hG2 hn2 hH2 hf2
      try simp [*]
      have kp2 := Hold.mk hf2
      clear hf2
      repeat (first | with_reducible refine seq_k fun K hK => ?_ | (with_reducible refine region_k fun K hK => ?_; simp [*]) | (with_reducible refine region_drawT_k mixedO (by decide +kernel) fun K hK => ?_; simp [*]) | (with_reducible refine region_tame_a mixedO (by decide +kernel) fun K hK => ?_; simp [*, Low, isLoadB, isTameB, List.range_succ, List.range']) | with_reducible refine pwp_block ?_ | with_reducible refine pwp_skip ?_ | with_reducible refine pwp_ret ?_ | with_reducible refine pwp_exit ?_ | (with_reducible refine cond_t ?_ ?_; (focus (simp [*]; done))) | (with_reducible refine cond_f ?_ ?_; (focus (simp [*]; done))) | with_reducible refine then_n ?_ | with_reducible refine then_r ?_ | with_reducible refine then_e ?_ | with_reducible refine then_g ?_ | with_reducible refine inB_n ?_ | with_reducible refine inB_r ?_ | with_reducible refine inB_e ?_ | with_reducible refine inB_o rfl ?_ | with_reducible refine inB_g ?_ | with_reducible refine Leads.go (by assumption) ?_)
      obtain ⟨hfr, hnx, hHG⟩ := kp.out
      simp [en]
      refine ⟨?_, by omega, by rw [hH2]; exact hHG, fun i hi hn => ?_⟩
      · rw [sev]; simpa using hG2
      · have h1 := hfr i hi hn
        have h2 := kp2.out i (by omega) h1.2
        exact ⟨h2.1.trans h1.1, h2.2⟩
end Go.Pv
