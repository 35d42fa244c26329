/- A part of the proof: functions of the program, walked, or what operations come to. -/
import Derived.Test.YtnmpinbfddjhmaaGreatPvF3
-- ZpvTameA ZpvDrawT
namespace Go.Pv
open Go.Proofs
attribute [-simp] eLen UInt8.ofNat_add

theorem hexT_at : ∀ i : Nat, i < 22 → hexM (hexT.getD i 0) = some (if 15 < i then i - 6 else i) := by decide +kernel
theorem hexT_not (c : UInt8) (h : hexT.contains c = false) : hexM c = none := by
  have key : ((List.range 256).all fun n => hexT.contains (UInt8.ofNat n) || (hexM (UInt8.ofNat n)).isNone) = true := by decide +kernel
  have hc := List.all_eq_true.1 key c.toNat (List.mem_range.2 c.toNat_lt)
  have hg : UInt8.ofNat c.toNat = c := by simp
  rw [hg, h, Bool.false_or] at hc
  exact Option.isNone_iff_eq_none.1 hc
set_option maxHeartbeats 4000000 in
set_option maxRecDepth 100000 in
theorem rfdigit_spec (c : UInt8) (H : Heap) : PCalls Tryz.prog 48 [.val (.int .u8 (c.toNat : Nat))] H fun d H' => d = .val (.int .i64 (match hexM c with | some n => (n : Int) | none => -1)) ∧ H' = H := by
  refine PCalls.of_pwp Tryz.call48 Tryz.func48 rfl (by simp [Tryz.ntmps48]) ?_
  rw [Tryz.ntmps48]
  obtain ⟨ans, hans⟩ : ∃ a : Int, (match hexM c with | some n => (n : Int) | none => -1) = a := ⟨_, rfl⟩
  rw [hans]
  obtain ⟨T, hT⟩ : ∃ T, hexT = T := ⟨_, rfl⟩
  have hTl : T.length = 22 := by rw [← hT]; rfl
  have hTD : D.val (.string ⟨#[48, 49, 50, 51, 52, 53, 54, 55, 56, 57, 97, 98, 99, 100, 101, 102, 65, 66, 67, 68, 69, 70]⟩) = sD T := by rw [← hT]; rfl
  repeat (first | (with_reducible first | refine seq_k fun K hK => ?_ | refine pwp_block ?_ | refine pwp_skip ?_ | refine pwp_ret ?_ | refine pwp_exit ?_ | refine then_n ?_ | refine then_r ?_ | refine then_e ?_ | refine then_g ?_ | refine inB_n ?_ | refine inB_r ?_ | refine inB_e ?_ | refine inB_o rfl ?_ | refine inB_g ?_ | refine Leads.go (by assumption) ?_) | (with_reducible refine region_k fun K hK => ?_; simp [*]) | (with_reducible refine region_drawT_k mixedO (by decide +kernel) fun K hK => ?_; simp [*]) | (with_reducible refine region_tame_a mixedO (by decide +kernel) fun K hK => ?_; simp [*, Low, isLoadB, isTameB, List.range_succ, List.range']) | (with_reducible refine cond_t ?_ ?_; (focus (simp [*]; done))) | (with_reducible refine cond_f ?_ ?_; (focus (simp [*]; done))))
  clear hTD
  refine pwp_for (22) (fun k st => st.env.n = 19 ∧ st.df = [] ∧ st.H = H ∧ st.env.get 0 = .val (.int .u8 (c.toNat : Nat)) ∧ st.env.get 3 = sD T ∧ st.env.get 4 = .val (.int .i64 k) ∧ (Hold ((T.take k).contains c = false))) ⟨by first | (simp; done) | (simp [*]; done), rfl, by first | rfl | simp, by first | (simp; done) | (simp [*]; done), by first | (simp; done) | (simp [*]; done), by first | (simp; done) | (simp [*]; done), by first | done | exact ⟨by simp⟩ | simp⟩ ?_ ?_
  · rintro k ⟨E, Hx, df⟩ hk ⟨en, edf, eH, e0, e3, e4, eP⟩
    simp only at en edf eH e0 e3 e4
    subst edf; replace eH := eH.symm; subst eH
    have hki : (k : Int) < ((22 : Nat) : Int) := by omega
    have hkw := wrapSucc k (by omega)
    obtain ⟨x, hx⟩ : ∃ x, T[k]? = some x := ⟨_, List.getElem?_eq_getElem (by omega)⟩
    have bx : byteAt T k = (x.toNat : Int) := byteAt_of hx
    have lx := toNat_lt x
    have k1 : (k : Int) < 22 := by omega
    have k2 : (k : Int) < (T.length : Int) := by omega
    have hkl : k < T.length := by omega
    by_cases hx : (x.toNat : Int) = (c.toNat : Int)
    · have hxc : x = c := UInt8.toNat_inj.1 (by omega)
      have hM : hexM c = some (if 15 < k then k - 6 else k) := by
        rw [← hxc, ← hexT_at k hk, hT, List.getD_eq_getElem?_getD]
        rw [‹T[k]? = some x›]; rfl
      rw [hM] at hans
      simp only at hans
      by_cases h15 : 15 < k
      · rw [if_pos h15] at hans
        have h15i : (15 : Int) < (k : Int) := by omega
        have w := wrapI ((k : Int) - 6) (by omega) (by omega)
        have hA : ans = (k : Int) - 6 := by omega
        clear hans hM hxc
        repeat (first | (with_reducible first | refine seq_k fun K hK => ?_ | refine pwp_block ?_ | refine pwp_skip ?_ | refine pwp_ret ?_ | refine pwp_exit ?_ | refine then_n ?_ | refine then_r ?_ | refine then_e ?_ | refine then_g ?_ | refine inB_n ?_ | refine inB_r ?_ | refine inB_e ?_ | refine inB_o rfl ?_ | refine inB_g ?_ | refine Leads.go (by assumption) ?_) | (with_reducible refine region_k fun K hK => ?_; simp [*]) | (with_reducible refine region_drawT_k mixedO (by decide +kernel) fun K hK => ?_; simp [*]) | (with_reducible refine region_tame_a mixedO (by decide +kernel) fun K hK => ?_; simp [*, Low, isLoadB, isTameB, List.range_succ, List.range']) | (with_reducible refine cond_t ?_ ?_; (focus (simp [*]; done))) | (with_reducible refine cond_f ?_ ?_; (focus (simp [*]; done))))
        simp [*]
      · rw [if_neg h15] at hans
        have h15i : ¬ (15 : Int) < (k : Int) := by omega
        have hA : ans = (k : Int) := by omega
        clear hans hM hxc
        repeat (first | (with_reducible first | refine seq_k fun K hK => ?_ | refine pwp_block ?_ | refine pwp_skip ?_ | refine pwp_ret ?_ | refine pwp_exit ?_ | refine then_n ?_ | refine then_r ?_ | refine then_e ?_ | refine then_g ?_ | refine inB_n ?_ | refine inB_r ?_ | refine inB_e ?_ | refine inB_o rfl ?_ | refine inB_g ?_ | refine Leads.go (by assumption) ?_) | (with_reducible refine region_k fun K hK => ?_; simp [*]) | (with_reducible refine region_drawT_k mixedO (by decide +kernel) fun K hK => ?_; simp [*]) | (with_reducible refine region_tame_a mixedO (by decide +kernel) fun K hK => ?_; simp [*, Low, isLoadB, isTameB, List.range_succ, List.range']) | (with_reducible refine cond_t ?_ ?_; (focus (simp [*]; done))) | (with_reducible refine cond_f ?_ ?_; (focus (simp [*]; done))))
        simp [*]
    · have hxc : ¬ c = x := fun q => hx (by rw [q])
      have hs : Hold ((T.take (k + 1)).contains c = false) := by
        refine ⟨?_⟩
        have h0 := eP.out
        rw [List.take_add_one, ‹T[k]? = some x›]
        simp only [List.contains_eq_mem, List.mem_append, decide_eq_false_iff_not, not_or] at h0 ⊢
        exact ⟨h0, by simp [hxc]⟩
      have hx2 : ¬ x.toNat = c.toNat := by omega
      clear hans
      repeat (first | (with_reducible first | refine seq_k fun K hK => ?_ | refine pwp_block ?_ | refine pwp_skip ?_ | refine pwp_ret ?_ | refine pwp_exit ?_ | refine then_n ?_ | refine then_r ?_ | refine then_e ?_ | refine then_g ?_ | refine inB_n ?_ | refine inB_r ?_ | refine inB_e ?_ | refine inB_o rfl ?_ | refine inB_g ?_ | refine Leads.go (by assumption) ?_) | (with_reducible refine region_k fun K hK => ?_; simp [*]) | (with_reducible refine region_drawT_k mixedO (by decide +kernel) fun K hK => ?_; simp [*]) | (with_reducible refine region_tame_a mixedO (by decide +kernel) fun K hK => ?_; simp [*, Low, isLoadB, isTameB, List.range_succ, List.range']) | (with_reducible refine cond_t ?_ ?_; (focus (simp [*]; done))) | (with_reducible refine cond_f ?_ ?_; (focus (simp [*]; done))))
      simp [*]
      first
      | done
      | simpa using hs
  · rintro ⟨E, Hx, df⟩ ⟨en, edf, eH, e0, e3, e4, eP⟩
    simp only at en edf eH e0 e3 e4
    subst edf; replace eH := eH.symm; subst eH
    have h5 := eP.out
    rw [List.take_of_length_le (by omega), ← hT] at h5
    rw [hexT_not c h5] at hans
    have hA : ans = -1 := hans.symm
    clear hans h5 eP
    repeat (first | (with_reducible first | refine seq_k fun K hK => ?_ | refine pwp_block ?_ | refine pwp_skip ?_ | refine pwp_ret ?_ | refine pwp_exit ?_ | refine then_n ?_ | refine then_r ?_ | refine then_e ?_ | refine then_g ?_ | refine inB_n ?_ | refine inB_r ?_ | refine inB_e ?_ | refine inB_o rfl ?_ | refine inB_g ?_ | refine Leads.go (by assumption) ?_) | (with_reducible refine region_k fun K hK => ?_; simp [*]) | (with_reducible refine region_drawT_k mixedO (by decide +kernel) fun K hK => ?_; simp [*]) | (with_reducible refine region_tame_a mixedO (by decide +kernel) fun K hK => ?_; simp [*, Low, isLoadB, isTameB, List.range_succ, List.range']) | (with_reducible refine cond_t ?_ ?_; (focus (simp [*]; done))) | (with_reducible refine cond_f ?_ ?_; (focus (simp [*]; done))))
    simp [*]
set_option maxHeartbeats 4000000 in
set_option maxRecDepth 100000 in
theorem rfParse_spec (l : By) (H : Heap) : PCalls Tryz.prog 31 [sD l] H fun d H' => d = fltD (parseM l) ∧ H' = H := by
  refine PCalls.of_pwp Tryz.call31 Tryz.func31 rfl (by simp [Tryz.ntmps31]) ?_
  rw [Tryz.ntmps31]
  by_cases h16 : l.length = 16
  · have h16i : (l.length : Int) = 16 := by omega
    repeat (first | (with_reducible first | refine seq_k fun K hK => ?_ | refine pwp_block ?_ | refine pwp_skip ?_ | refine pwp_ret ?_ | refine pwp_exit ?_ | refine then_n ?_ | refine then_r ?_ | refine then_e ?_ | refine then_g ?_ | refine inB_n ?_ | refine inB_r ?_ | refine inB_e ?_ | refine inB_o rfl ?_ | refine inB_g ?_ | refine Leads.go (by assumption) ?_) | (with_reducible refine region_k fun K hK => ?_; simp [*]) | (with_reducible refine region_drawT_k mixedO (by decide +kernel) fun K hK => ?_; simp [*]) | (with_reducible refine region_tame_a mixedO (by decide +kernel) fun K hK => ?_; simp [*, Low, isLoadB, isTameB, List.range_succ, List.range']) | (with_reducible refine cond_t ?_ ?_; (focus (simp [*]; done))) | (with_reducible refine cond_f ?_ ?_; (focus (simp [*]; done))))
    refine pwp_for (16) (fun k st => st.env.n = 27 ∧ st.df = [] ∧ st.H = H ∧ st.env.get 0 = sD l ∧ st.env.get 4 = .val (.int .u64 ((hexV (l.take k) : Nat) : Int)) ∧ st.env.get 5 = .val (.int .i64 k) ∧ (Hold (hexAll (l.take k) = true))) ⟨by first | (simp; done) | (simp [*]; done), rfl, by first | rfl | simp, by first | (simp; done) | (simp [*]; done), by first | (simp; done) | (simp [*]; done), by first | (simp; done) | (simp [*]; done), by first | done | exact ⟨by simp⟩ | simp⟩ ?_ ?_
    · rintro k ⟨E, Hx, df⟩ hk ⟨en, edf, eH, e0, e4, e5, eP⟩
      simp only at en edf eH e0 e4 e5
      subst edf; replace eH := eH.symm; subst eH
      have hki : (k : Int) < ((16 : Nat) : Int) := by omega
      have hkw := wrapSucc k (by omega)
      obtain ⟨c, hc⟩ : ∃ c, l[k]? = some c := ⟨_, List.getElem?_eq_getElem (by omega)⟩
      have bc : byteAt l k = (c.toNat : Int) := byteAt_of hc
      have lc := toNat_lt c
      have hs := hexAll_succ l k c hc
      rw [eP.out, Bool.true_and] at hs
      have hv := hexV_take l k c hc
      have hlt := hexV_lt (l.take k)
      have hl15 : (l.take k).length ≤ 15 := by simp; omega
      have hlt2 : hexV (l.take k) < 16 ^ 15 := Nat.lt_of_lt_of_le hlt (Nat.pow_le_pow_right (by decide) hl15)
      obtain ⟨v, hve⟩ : ∃ v, hexV (l.take k) = v := ⟨_, rfl⟩
      rw [hve] at hv hlt2 e4
      have k1 : (k : Int) < 16 := by omega
      have k2 : (k : Int) < (l.length : Int) := by omega
      have hkl : k < l.length := by omega
      have hds := rfdigit_spec c
      cases hd : hexM c with
      | none =>
        have hp : parseM l = none := by rw [parseM, if_neg]; rw [hexAll_not l k c hc hd]; simp
        rw [hd] at hds
        simp only at hds
        clear hs hve hd
        repeat (first | (with_reducible first | refine seq_k fun K hK => ?_ | refine pwp_block ?_ | refine pwp_skip ?_ | refine pwp_ret ?_ | refine pwp_exit ?_ | refine then_n ?_ | refine then_r ?_ | refine then_e ?_ | refine then_g ?_ | refine inB_n ?_ | refine inB_r ?_ | refine inB_e ?_ | refine inB_o rfl ?_ | refine inB_g ?_ | refine Leads.go (by assumption) ?_) | (with_reducible refine region_k fun K hK => ?_; simp [*]) | (with_reducible refine region_drawT_k mixedO (by decide +kernel) fun K hK => ?_; simp [*]) | (with_reducible refine region_tame_a mixedO (by decide +kernel) fun K hK => ?_; simp [*, Low, isLoadB, isTameB, List.range_succ, List.range']) | (with_reducible refine cond_t ?_ ?_; (focus (simp [*]; done))) | (with_reducible refine cond_f ?_ ?_; (focus (simp [*]; done))))
        refine PCalls.mono (hds _) ?_
        intro d3 H3 hd3
        rw [hd3.1, hd3.2]
        clear hd3
        try simp [*]
        try simp [*]
        repeat (first | (with_reducible first | refine seq_k fun K hK => ?_ | refine pwp_block ?_ | refine pwp_skip ?_ | refine pwp_ret ?_ | refine pwp_exit ?_ | refine then_n ?_ | refine then_r ?_ | refine then_e ?_ | refine then_g ?_ | refine inB_n ?_ | refine inB_r ?_ | refine inB_e ?_ | refine inB_o rfl ?_ | refine inB_g ?_ | refine Leads.go (by assumption) ?_) | (with_reducible refine region_k fun K hK => ?_; simp [*]) | (with_reducible refine region_drawT_k mixedO (by decide +kernel) fun K hK => ?_; simp [*]) | (with_reducible refine region_tame_a mixedO (by decide +kernel) fun K hK => ?_; simp [*, Low, isLoadB, isTameB, List.range_succ, List.range']) | (with_reducible refine cond_t ?_ ?_; (focus (simp [*]; done))) | (with_reducible refine cond_f ?_ ?_; (focus (simp [*]; done))))
        simp [*, fltD]
      | some n =>
        have hn := hexM_lt hd
        rw [hd] at hs hv hds
        simp only [Option.getD_some, Option.isSome_some] at hs hv hds
        have n0 : ¬ (n : Int) < 0 := by omega
        have u1 := wrapU ((v : Int) * 16) (by omega) (by omega)
        have u2 := wrapU (n : Int) (by omega) (by omega)
        have u3 : IntKind.u64.wrap ((v : Int) * 16 + (n : Int)) = ((v * 16 + n : Nat) : Int) := by rw [wrapU _ (by omega) (by omega)]; omega
        have hs' := Hold.mk hs
        clear hs hve hd
        repeat (first | (with_reducible first | refine seq_k fun K hK => ?_ | refine pwp_block ?_ | refine pwp_skip ?_ | refine pwp_ret ?_ | refine pwp_exit ?_ | refine then_n ?_ | refine then_r ?_ | refine then_e ?_ | refine then_g ?_ | refine inB_n ?_ | refine inB_r ?_ | refine inB_e ?_ | refine inB_o rfl ?_ | refine inB_g ?_ | refine Leads.go (by assumption) ?_) | (with_reducible refine region_k fun K hK => ?_; simp [*]) | (with_reducible refine region_drawT_k mixedO (by decide +kernel) fun K hK => ?_; simp [*]) | (with_reducible refine region_tame_a mixedO (by decide +kernel) fun K hK => ?_; simp [*, Low, isLoadB, isTameB, List.range_succ, List.range']) | (with_reducible refine cond_t ?_ ?_; (focus (simp [*]; done))) | (with_reducible refine cond_f ?_ ?_; (focus (simp [*]; done))))
        refine PCalls.mono (hds _) ?_
        intro d3 H3 hd3
        rw [hd3.1, hd3.2]
        clear hd3
        try simp [*]
        try simp [*]
        repeat (first | (with_reducible first | refine seq_k fun K hK => ?_ | refine pwp_block ?_ | refine pwp_skip ?_ | refine pwp_ret ?_ | refine pwp_exit ?_ | refine then_n ?_ | refine then_r ?_ | refine then_e ?_ | refine then_g ?_ | refine inB_n ?_ | refine inB_r ?_ | refine inB_e ?_ | refine inB_o rfl ?_ | refine inB_g ?_ | refine Leads.go (by assumption) ?_) | (with_reducible refine region_k fun K hK => ?_; simp [*]) | (with_reducible refine region_drawT_k mixedO (by decide +kernel) fun K hK => ?_; simp [*]) | (with_reducible refine region_tame_a mixedO (by decide +kernel) fun K hK => ?_; simp [*, Low, isLoadB, isTameB, List.range_succ, List.range']) | (with_reducible refine cond_t ?_ ?_; (focus (simp [*]; done))) | (with_reducible refine cond_f ?_ ?_; (focus (simp [*]; done))))
        simp [*]
        first
        | done
        | exact ⟨by simpa using hs'.out⟩
    · rintro ⟨E, Hx, df⟩ ⟨en, edf, eH, e0, e4, e5, eP⟩
      simp only at en edf eH e0 e4 e5
      subst edf; replace eH := eH.symm; subst eH
      have h5 := eP.out
      have ht : l.take 16 = l := List.take_of_length_le (by omega)
      rw [ht] at h5 e4
      have hp : parseM l = some (hexV l) := by rw [parseM, if_pos ⟨h16, h5⟩]
      clear h5 ht eP
      repeat (first | (with_reducible first | refine seq_k fun K hK => ?_ | refine pwp_block ?_ | refine pwp_skip ?_ | refine pwp_ret ?_ | refine pwp_exit ?_ | refine then_n ?_ | refine then_r ?_ | refine then_e ?_ | refine then_g ?_ | refine inB_n ?_ | refine inB_r ?_ | refine inB_e ?_ | refine inB_o rfl ?_ | refine inB_g ?_ | refine Leads.go (by assumption) ?_) | (with_reducible refine region_k fun K hK => ?_; simp [*]) | (with_reducible refine region_drawT_k mixedO (by decide +kernel) fun K hK => ?_; simp [*]) | (with_reducible refine region_tame_a mixedO (by decide +kernel) fun K hK => ?_; simp [*, Low, isLoadB, isTameB, List.range_succ, List.range']) | (with_reducible refine cond_t ?_ ?_; (focus (simp [*]; done))) | (with_reducible refine cond_f ?_ ?_; (focus (simp [*]; done))))
      refine PCalls.mono (frombits_spec (hexV l) _) ?_
      intro d3 H3 hd3
      rw [hd3.1, hd3.2]
      clear hd3
      try simp [*]
      repeat (first | (with_reducible first | refine seq_k fun K hK => ?_ | refine pwp_block ?_ | refine pwp_skip ?_ | refine pwp_ret ?_ | refine pwp_exit ?_ | refine then_n ?_ | refine then_r ?_ | refine then_e ?_ | refine then_g ?_ | refine inB_n ?_ | refine inB_r ?_ | refine inB_e ?_ | refine inB_o rfl ?_ | refine inB_g ?_ | refine Leads.go (by assumption) ?_) | (with_reducible refine region_k fun K hK => ?_; simp [*]) | (with_reducible refine region_drawT_k mixedO (by decide +kernel) fun K hK => ?_; simp [*]) | (with_reducible refine region_tame_a mixedO (by decide +kernel) fun K hK => ?_; simp [*, Low, isLoadB, isTameB, List.range_succ, List.range']) | (with_reducible refine cond_t ?_ ?_; (focus (simp [*]; done))) | (with_reducible refine cond_f ?_ ?_; (focus (simp [*]; done))))
      simp [*, fltD]
  · have h16i : ¬ (l.length : Int) = 16 := by omega
    have hp : parseM l = none := by rw [parseM, if_neg]; simp [h16]
    repeat (first | (with_reducible first | refine seq_k fun K hK => ?_ | refine pwp_block ?_ | refine pwp_skip ?_ | refine pwp_ret ?_ | refine pwp_exit ?_ | refine then_n ?_ | refine then_r ?_ | refine then_e ?_ | refine then_g ?_ | refine inB_n ?_ | refine inB_r ?_ | refine inB_e ?_ | refine inB_o rfl ?_ | refine inB_g ?_ | refine Leads.go (by assumption) ?_) | (with_reducible refine region_k fun K hK => ?_; simp [*]) | (with_reducible refine region_drawT_k mixedO (by decide +kernel) fun K hK => ?_; simp [*]) | (with_reducible refine region_tame_a mixedO (by decide +kernel) fun K hK => ?_; simp [*, Low, isLoadB, isTameB, List.range_succ, List.range']) | (with_reducible refine cond_t ?_ ?_; (focus (simp [*]; done))) | (with_reducible refine cond_f ?_ ?_; (focus (simp [*]; done))))
    simp [*, fltD]
end Go.Pv
-- ZpvTameA ZpvDrawT
namespace Go.Pv
open Go.Proofs
attribute [-simp] eLen UInt8.ofNat_add

set_option maxRecDepth 100000 in
theorem rfBits_spec (x : Nat) (H : Heap) : PCalls Tryz.prog 50 [.val (.float .f64 x)] H fun d H' => d = .val (.int .u64 (plainF x : Nat)) ∧ H' = H := by
  refine PCalls.of_pwp Tryz.call50 Tryz.func50 rfl (by simp [Tryz.ntmps50]) ?_
  rw [Tryz.ntmps50]
  cases hn : Op.floatEq .f64 x x with
  | false =>
    have hp : plainF x = 9221120237041090560 := by rw [plainF, nanB, hn]; rfl
    repeat (first | (with_reducible first | refine seq_k fun K hK => ?_ | refine pwp_block ?_ | refine pwp_skip ?_ | refine pwp_ret ?_ | refine pwp_exit ?_ | refine then_n ?_ | refine then_r ?_ | refine then_e ?_ | refine then_g ?_ | refine inB_n ?_ | refine inB_r ?_ | refine inB_e ?_ | refine inB_o rfl ?_ | refine inB_g ?_ | refine Leads.go (by assumption) ?_) | (with_reducible refine region_k fun K hK => ?_; simp [*]) | (with_reducible refine region_drawT_k mixedO (by decide +kernel) fun K hK => ?_; simp [*]) | (with_reducible refine region_tame_a mixedO (by decide +kernel) fun K hK => ?_; simp [*, Low, isLoadB, isTameB, List.range_succ, List.range']) | (with_reducible refine cond_t ?_ ?_; (focus (simp [*]; done))) | (with_reducible refine cond_f ?_ ?_; (focus (simp [*]; done))))
    simp [*]
  | true =>
    cases hz : Op.floatEq .f64 x 0 with
    | true =>
      have hp : plainF x = 0 := by rw [plainF, nanB, hn, hz]; rfl
      repeat (first | (with_reducible first | refine seq_k fun K hK => ?_ | refine pwp_block ?_ | refine pwp_skip ?_ | refine pwp_ret ?_ | refine pwp_exit ?_ | refine then_n ?_ | refine then_r ?_ | refine then_e ?_ | refine then_g ?_ | refine inB_n ?_ | refine inB_r ?_ | refine inB_e ?_ | refine inB_o rfl ?_ | refine inB_g ?_ | refine Leads.go (by assumption) ?_) | (with_reducible refine region_k fun K hK => ?_; simp [*]) | (with_reducible refine region_drawT_k mixedO (by decide +kernel) fun K hK => ?_; simp [*]) | (with_reducible refine region_tame_a mixedO (by decide +kernel) fun K hK => ?_; simp [*, Low, isLoadB, isTameB, List.range_succ, List.range']) | (with_reducible refine cond_t ?_ ?_; (focus (simp [*]; done))) | (with_reducible refine cond_f ?_ ?_; (focus (simp [*]; done))))
      simp [*]
    | false =>
      have hp : plainF x = x := by rw [plainF, nanB, hn, hz]; rfl
      repeat (first | (with_reducible first | refine seq_k fun K hK => ?_ | refine pwp_block ?_ | refine pwp_skip ?_ | refine pwp_ret ?_ | refine pwp_exit ?_ | refine then_n ?_ | refine then_r ?_ | refine then_e ?_ | refine then_g ?_ | refine inB_n ?_ | refine inB_r ?_ | refine inB_e ?_ | refine inB_o rfl ?_ | refine inB_g ?_ | refine Leads.go (by assumption) ?_) | (with_reducible refine region_k fun K hK => ?_; simp [*]) | (with_reducible refine region_drawT_k mixedO (by decide +kernel) fun K hK => ?_; simp [*]) | (with_reducible refine region_tame_a mixedO (by decide +kernel) fun K hK => ?_; simp [*, Low, isLoadB, isTameB, List.range_succ, List.range']) | (with_reducible refine cond_t ?_ ?_; (focus (simp [*]; done))) | (with_reducible refine cond_f ?_ ?_; (focus (simp [*]; done))))
      refine PCalls.mono (fbits_spec x _) ?_
      intro d3 H3 hd3
      rw [hd3.1, hd3.2]
      clear hd3
      try simp [*]
      repeat (first | (with_reducible first | refine seq_k fun K hK => ?_ | refine pwp_block ?_ | refine pwp_skip ?_ | refine pwp_ret ?_ | refine pwp_exit ?_ | refine then_n ?_ | refine then_r ?_ | refine then_e ?_ | refine then_g ?_ | refine inB_n ?_ | refine inB_r ?_ | refine inB_e ?_ | refine inB_o rfl ?_ | refine inB_g ?_ | refine Leads.go (by assumption) ?_) | (with_reducible refine region_k fun K hK => ?_; simp [*]) | (with_reducible refine region_drawT_k mixedO (by decide +kernel) fun K hK => ?_; simp [*]) | (with_reducible refine region_tame_a mixedO (by decide +kernel) fun K hK => ?_; simp [*, Low, isLoadB, isTameB, List.range_succ, List.range']) | (with_reducible refine cond_t ?_ ?_; (focus (simp [*]; done))) | (with_reducible refine cond_f ?_ ?_; (focus (simp [*]; done))))
      simp [*]
set_option maxRecDepth 100000 in
theorem rfOrder_spec (x y : Nat) (H : Heap) : PCalls Tryz.prog 38 [.val (.float .f64 x), .val (.float .f64 y)] H fun d H' => d = .val (.int .i64 (orderF x y)) ∧ H' = H := by
  refine PCalls.of_pwp Tryz.call38 Tryz.func38 rfl (by simp [Tryz.ntmps38]) ?_
  rw [Tryz.ntmps38]
  obtain ⟨ans, hans⟩ : ∃ a, orderF x y = a := ⟨_, rfl⟩
  rw [hans]
  have hg : (FloatKind.f64.format.order x y == some .gt) = gtF x y := rfl
  have hl : (FloatKind.f64.format.order x y == some .lt) = ltF x y := rfl
  have hxx : Op.floatEq .f64 x x = !nanB x := by simp [nanB]
  have hyy : Op.floatEq .f64 y y = !nanB y := by simp [nanB]
  cases hx : nanB x with
  | true =>
    cases hy : nanB y with
    | true =>
      have hA : ans = 0 := by rw [← hans, orderF, hx, hy]; rfl
      clear hans
      rw [hx] at hxx
      rw [hy] at hyy
      repeat (first | (with_reducible first | refine seq_k fun K hK => ?_ | refine pwp_block ?_ | refine pwp_skip ?_ | refine pwp_ret ?_ | refine pwp_exit ?_ | refine then_n ?_ | refine then_r ?_ | refine then_e ?_ | refine then_g ?_ | refine inB_n ?_ | refine inB_r ?_ | refine inB_e ?_ | refine inB_o rfl ?_ | refine inB_g ?_ | refine Leads.go (by assumption) ?_) | (with_reducible refine region_k fun K hK => ?_; simp [*]) | (with_reducible refine region_drawT_k mixedO (by decide +kernel) fun K hK => ?_; simp [*]) | (with_reducible refine region_tame_a mixedO (by decide +kernel) fun K hK => ?_; simp [*, Low, isLoadB, isTameB, List.range_succ, List.range']) | (with_reducible refine cond_t ?_ ?_; (focus (simp [*]; done))) | (with_reducible refine cond_f ?_ ?_; (focus (simp [*]; done))))
      simp [*]
    | false =>
      have hA : ans = 1 := by rw [← hans, orderF, hx, hy]; rfl
      clear hans
      rw [hx] at hxx
      rw [hy] at hyy
      repeat (first | (with_reducible first | refine seq_k fun K hK => ?_ | refine pwp_block ?_ | refine pwp_skip ?_ | refine pwp_ret ?_ | refine pwp_exit ?_ | refine then_n ?_ | refine then_r ?_ | refine then_e ?_ | refine then_g ?_ | refine inB_n ?_ | refine inB_r ?_ | refine inB_e ?_ | refine inB_o rfl ?_ | refine inB_g ?_ | refine Leads.go (by assumption) ?_) | (with_reducible refine region_k fun K hK => ?_; simp [*]) | (with_reducible refine region_drawT_k mixedO (by decide +kernel) fun K hK => ?_; simp [*]) | (with_reducible refine region_tame_a mixedO (by decide +kernel) fun K hK => ?_; simp [*, Low, isLoadB, isTameB, List.range_succ, List.range']) | (with_reducible refine cond_t ?_ ?_; (focus (simp [*]; done))) | (with_reducible refine cond_f ?_ ?_; (focus (simp [*]; done))))
      simp [*]
  | false =>
    cases hy : nanB y with
    | true =>
      have hA : ans = -1 := by rw [← hans, orderF, hx, hy]; rfl
      clear hans
      rw [hx] at hxx
      rw [hy] at hyy
      repeat (first | (with_reducible first | refine seq_k fun K hK => ?_ | refine pwp_block ?_ | refine pwp_skip ?_ | refine pwp_ret ?_ | refine pwp_exit ?_ | refine then_n ?_ | refine then_r ?_ | refine then_e ?_ | refine then_g ?_ | refine inB_n ?_ | refine inB_r ?_ | refine inB_e ?_ | refine inB_o rfl ?_ | refine inB_g ?_ | refine Leads.go (by assumption) ?_) | (with_reducible refine region_k fun K hK => ?_; simp [*]) | (with_reducible refine region_drawT_k mixedO (by decide +kernel) fun K hK => ?_; simp [*]) | (with_reducible refine region_tame_a mixedO (by decide +kernel) fun K hK => ?_; simp [*, Low, isLoadB, isTameB, List.range_succ, List.range']) | (with_reducible refine cond_t ?_ ?_; (focus (simp [*]; done))) | (with_reducible refine cond_f ?_ ?_; (focus (simp [*]; done))))
      simp [*]
    | false =>
      cases hlv : ltF x y with
      | true =>
        have hgv := lt_gt x y hlv
        have hA : ans = -1 := by rw [← hans, orderF, hx, hy, hgv, hlv]; rfl
        clear hans
        rw [hx] at hxx
        rw [hy] at hyy
        repeat (first | (with_reducible first | refine seq_k fun K hK => ?_ | refine pwp_block ?_ | refine pwp_skip ?_ | refine pwp_ret ?_ | refine pwp_exit ?_ | refine then_n ?_ | refine then_r ?_ | refine then_e ?_ | refine then_g ?_ | refine inB_n ?_ | refine inB_r ?_ | refine inB_e ?_ | refine inB_o rfl ?_ | refine inB_g ?_ | refine Leads.go (by assumption) ?_) | (with_reducible refine region_k fun K hK => ?_; simp [*]) | (with_reducible refine region_drawT_k mixedO (by decide +kernel) fun K hK => ?_; simp [*]) | (with_reducible refine region_tame_a mixedO (by decide +kernel) fun K hK => ?_; simp [*, Low, isLoadB, isTameB, List.range_succ, List.range']) | (with_reducible refine cond_t ?_ ?_; (focus (simp [*]; done))) | (with_reducible refine cond_f ?_ ?_; (focus (simp [*]; done))))
        simp [*]
      | false =>
        cases hgv : gtF x y with
        | true =>
          have hA : ans = 1 := by rw [← hans, orderF, hx, hy, hgv]; rfl
          clear hans
          rw [hx] at hxx
          rw [hy] at hyy
          repeat (first | (with_reducible first | refine seq_k fun K hK => ?_ | refine pwp_block ?_ | refine pwp_skip ?_ | refine pwp_ret ?_ | refine pwp_exit ?_ | refine then_n ?_ | refine then_r ?_ | refine then_e ?_ | refine then_g ?_ | refine inB_n ?_ | refine inB_r ?_ | refine inB_e ?_ | refine inB_o rfl ?_ | refine inB_g ?_ | refine Leads.go (by assumption) ?_) | (with_reducible refine region_k fun K hK => ?_; simp [*]) | (with_reducible refine region_drawT_k mixedO (by decide +kernel) fun K hK => ?_; simp [*]) | (with_reducible refine region_tame_a mixedO (by decide +kernel) fun K hK => ?_; simp [*, Low, isLoadB, isTameB, List.range_succ, List.range']) | (with_reducible refine cond_t ?_ ?_; (focus (simp [*]; done))) | (with_reducible refine cond_f ?_ ?_; (focus (simp [*]; done))))
          simp [*]
        | false =>
          have hA : ans = 0 := by rw [← hans, orderF, hx, hy, hgv, hlv]; rfl
          clear hans
          rw [hx] at hxx
          rw [hy] at hyy
          repeat (first | (with_reducible first | refine seq_k fun K hK => ?_ | refine pwp_block ?_ | refine pwp_skip ?_ | refine pwp_ret ?_ | refine pwp_exit ?_ | refine then_n ?_ | refine then_r ?_ | refine then_e ?_ | refine then_g ?_ | refine inB_n ?_ | refine inB_r ?_ | refine inB_e ?_ | refine inB_o rfl ?_ | refine inB_g ?_ | refine Leads.go (by assumption) ?_) | (with_reducible refine region_k fun K hK => ?_; simp [*]) | (with_reducible refine region_drawT_k mixedO (by decide +kernel) fun K hK => ?_; simp [*]) | (with_reducible refine region_tame_a mixedO (by decide +kernel) fun K hK => ?_; simp [*, Low, isLoadB, isTameB, List.range_succ, List.range']) | (with_reducible refine cond_t ?_ ?_; (focus (simp [*]; done))) | (with_reducible refine cond_f ?_ ?_; (focus (simp [*]; done))))
          simp [*]
end Go.Pv
-- ZpvTameA ZpvDrawT
namespace Go.Pv
open Go.Proofs
attribute [-simp] eLen UInt8.ofNat_add

/-! ### The digits of a number's bits -/
set_option maxHeartbeats 4000000 in
set_option maxRecDepth 100000 in
theorem rfText_spec (x : Nat) (H : Heap) : PCalls Tryz.prog 32 [.val (.float .f64 x)] H fun d H' => d = sD (textF (plainF x)) ∧ H' = H := by
  refine PCalls.of_pwp Tryz.call32 Tryz.func32 rfl (by simp [Tryz.ntmps32]) ?_
  rw [Tryz.ntmps32]
  repeat (first | (with_reducible first | refine seq_k fun K hK => ?_ | refine pwp_block ?_ | refine pwp_skip ?_ | refine pwp_ret ?_ | refine pwp_exit ?_ | refine then_n ?_ | refine then_r ?_ | refine then_e ?_ | refine then_g ?_ | refine inB_n ?_ | refine inB_r ?_ | refine inB_e ?_ | refine inB_o rfl ?_ | refine inB_g ?_ | refine Leads.go (by assumption) ?_) | (with_reducible refine region_k fun K hK => ?_; simp [*]) | (with_reducible refine region_drawT_k mixedO (by decide +kernel) fun K hK => ?_; simp [*]) | (with_reducible refine region_tame_a mixedO (by decide +kernel) fun K hK => ?_; simp [*, Low, isLoadB, isTameB, List.range_succ, List.range']) | (with_reducible refine cond_t ?_ ?_; (focus (simp [*]; done))) | (with_reducible refine cond_f ?_ ?_; (focus (simp [*]; done))))
  refine PCalls.mono (rfBits_spec x _) ?_
  intro d3 H3 hd3
  rw [hd3.1, hd3.2]
  clear hd3
  try simp [*]
  obtain ⟨n, hn⟩ : ∃ n, plainF x = n := ⟨_, rfl⟩
  rw [hn]
  try simp [*]
  repeat (first | (with_reducible first | refine seq_k fun K hK => ?_ | refine pwp_block ?_ | refine pwp_skip ?_ | refine pwp_ret ?_ | refine pwp_exit ?_ | refine then_n ?_ | refine then_r ?_ | refine then_e ?_ | refine then_g ?_ | refine inB_n ?_ | refine inB_r ?_ | refine inB_e ?_ | refine inB_o rfl ?_ | refine inB_g ?_ | refine Leads.go (by assumption) ?_) | (with_reducible refine region_k fun K hK => ?_; simp [*]) | (with_reducible refine region_drawT_k mixedO (by decide +kernel) fun K hK => ?_; simp [*]) | (with_reducible refine region_tame_a mixedO (by decide +kernel) fun K hK => ?_; simp [*, Low, isLoadB, isTameB, List.range_succ, List.range']) | (with_reducible refine cond_t ?_ ?_; (focus (simp [*]; done))) | (with_reducible refine cond_f ?_ ?_; (focus (simp [*]; done))))
  refine pwp_for (16) (fun k st => st.env.n = 27 ∧ st.df = [] ∧ st.H = H ∧ st.env.get 3 = .val (.int .u64 (n : Nat)) ∧ st.env.get 4 = sD ((List.range k).map (nibF n)) ∧ st.env.get 5 = .val (.int .i64 k)) ⟨by first | (simp; done) | (simp [*]; done), rfl, by first | rfl | simp, by first | (simp; done) | (simp [*]; done), by first | (simp; done) | (simp [*]; done), by first | (simp; done) | (simp [*]; done)⟩ ?_ ?_
  · rintro k ⟨E, Hx, df⟩ hk ⟨en, edf, eH, e3, e4, e5⟩
    simp only at en edf eH e3 e4 e5
    subst edf; replace eH := eH.symm; subst eH
    have hki : (k : Int) < ((16 : Nat) : Int) := by omega
    have hkw := wrapSucc k (by omega)
    have k1 : (k : Int) < 16 := by omega
    have w1 := wrapI (4 * (k : Int)) (by omega) (by omega)
    have w2 := wrapI (60 - 4 * (k : Int)) (by omega) (by omega)
    have w3 := wrapU (60 - 4 * (k : Int)) (by omega) (by omega)
    have hs := shr_nib n k hk
    have ha := and15 (n / 16 ^ (15 - k))
    have k60 : 4 * (k : Int) ≤ 60 := by omega
    have hsl := nib_sl n k
    have hkb : k + 1 ≤ 9223372036854775807 := by omega
    have hrs : (List.range (k + 1)).map (nibF n) = (List.range k).map (nibF n) ++ [nibF n k] := by rw [List.range_succ, List.map_append]; rfl
    obtain ⟨q, hq⟩ : ∃ q, n / 16 ^ (15 - k) = q := ⟨_, rfl⟩
    rw [hq] at hs ha
    simp only [hq] at hsl
    clear hq
    obtain ⟨m, hm⟩ : ∃ m, q % 16 = m := ⟨_, rfl⟩
    have hm16 : m < 16 := by omega
    rw [hm] at ha
    have hsl2 : List.drop m (48 :: List.take m [49, 50, 51, 52, 53, 54, 55, 56, 57, 97, 98, 99, 100, 101, 102]) = [nibF n k] := hsl m hm
    clear hsl
    have hkb2 : k + (min m 15 + 1 - m) ≤ 9223372036854775807 := by omega
    have m3 : (m : Int) ≤ (m : Int) + 1 := by omega
    have w4 := wrapU ((m : Int) + 1) (by omega) (by omega)
    have m1 : (m : Int) ≤ 15 := by omega
    have m2 : (m : Int) + 1 ≤ 16 := by omega
    clear hm
    repeat (first | (with_reducible first | refine seq_k fun K hK => ?_ | refine pwp_block ?_ | refine pwp_skip ?_ | refine pwp_ret ?_ | refine pwp_exit ?_ | refine then_n ?_ | refine then_r ?_ | refine then_e ?_ | refine then_g ?_ | refine inB_n ?_ | refine inB_r ?_ | refine inB_e ?_ | refine inB_o rfl ?_ | refine inB_g ?_ | refine Leads.go (by assumption) ?_) | (with_reducible refine region_k fun K hK => ?_; simp [*]) | (with_reducible refine region_drawT_k mixedO (by decide +kernel) fun K hK => ?_; simp [*]) | (with_reducible refine region_tame_a mixedO (by decide +kernel) fun K hK => ?_; simp [*, Low, isLoadB, isTameB, List.range_succ, List.range']) | (with_reducible refine cond_t ?_ ?_; (focus (simp [*]; done))) | (with_reducible refine cond_f ?_ ?_; (focus (simp [*]; done))))
    simp [*]
  · rintro ⟨E, Hx, df⟩ ⟨en, edf, eH, e3, e4, e5⟩
    simp only at en edf eH e3 e4 e5
    subst edf; replace eH := eH.symm; subst eH
    repeat (first | (with_reducible first | refine seq_k fun K hK => ?_ | refine pwp_block ?_ | refine pwp_skip ?_ | refine pwp_ret ?_ | refine pwp_exit ?_ | refine then_n ?_ | refine then_r ?_ | refine then_e ?_ | refine then_g ?_ | refine inB_n ?_ | refine inB_r ?_ | refine inB_e ?_ | refine inB_o rfl ?_ | refine inB_g ?_ | refine Leads.go (by assumption) ?_) | (with_reducible refine region_k fun K hK => ?_; simp [*]) | (with_reducible refine region_drawT_k mixedO (by decide +kernel) fun K hK => ?_; simp [*]) | (with_reducible refine region_tame_a mixedO (by decide +kernel) fun K hK => ?_; simp [*, Low, isLoadB, isTameB, List.range_succ, List.range']) | (with_reducible refine cond_t ?_ ?_; (focus (simp [*]; done))) | (with_reducible refine cond_f ?_ ?_; (focus (simp [*]; done))))
    simp [*, textF]
end Go.Pv
