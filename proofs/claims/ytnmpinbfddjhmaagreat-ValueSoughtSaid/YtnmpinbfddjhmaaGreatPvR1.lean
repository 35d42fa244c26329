/- A part of the proof: functions of the program, walked, or what operations come to. -/
import Derived.Test.YtnmpinbfddjhmaaGreatPvP2
import Derived.Test.YtnmpinbfddjhmaaGreatPvP4
import Derived.Test.YtnmpinbfddjhmaaGreatPvVA0
import Derived.Test.YtnmpinbfddjhmaaGreatPvP5
-- ZpvTameA ZpvDrawT
namespace Go.Pv
open Go.Proofs
attribute [-simp] eLen UInt8.ofNat_add

set_option maxRecDepth 100000 in
theorem rletter_spec (c : UInt8) (H : Heap) : PCalls Tryz.prog 53 [.val (.int .u8 (c.toNat : Nat))] H fun d H' => d = .val (.bool (isLet c)) ∧ H' = H := of_bytes mixedO (by kernel_rfl) c H
set_option maxRecDepth 100000 in
theorem rsign_spec (c : UInt8) (H : Heap) : PCalls Tryz.prog 65 [.val (.int .u8 (c.toNat : Nat))] H fun d H' => d = .val (.bool (isSign c)) ∧ H' = H := of_bytes mixedO (by kernel_rfl) c H
set_option maxRecDepth 100000 in
theorem rsigns_spec (l : By) (hl : l.length ≤ 100000) (H : Heap) : PCalls Tryz.prog 54 [sD l] H fun d H' => d = .val (.bool (signsB l)) ∧ H' = H := by
  refine PCalls.of_pwp Tryz.call54 Tryz.func54 rfl (by simp [Tryz.ntmps54]) ?_
  rw [Tryz.ntmps54]
  repeat (first | (with_reducible first | refine seq_k fun K hK => ?_ | refine pwp_block ?_ | refine pwp_skip ?_ | refine pwp_ret ?_ | refine pwp_exit ?_ | refine then_n ?_ | refine then_r ?_ | refine then_e ?_ | refine then_g ?_ | refine inB_n ?_ | refine inB_r ?_ | refine inB_e ?_ | refine inB_o rfl ?_ | refine inB_g ?_ | refine Leads.go (by assumption) ?_) | (with_reducible refine region_k fun K hK => ?_; simp [*]) | (with_reducible refine region_drawT_k mixedO (by decide +kernel) fun K hK => ?_; simp [*]) | (with_reducible refine region_tame_a mixedO (by decide +kernel) fun K hK => ?_; simp [*, Low, isLoadB, isTameB, List.range_succ, List.range']) | (with_reducible refine cond_t ?_ ?_; (focus (simp [*]; done))) | (with_reducible refine cond_f ?_ ?_; (focus (simp [*]; done))))
  refine pwp_for (l.length) (fun k st => st.env.n = 18 ∧ st.df = [] ∧ st.H = H ∧ st.env.get 0 = sD l ∧ st.env.get 3 = .val (.int .i64 k) ∧ ((l.take k).all isSign = true)) ⟨by first | (simp; done) | (simp [*]; done), rfl, by first | rfl | simp, by first | (simp; done) | (simp [*]; done), by first | (simp; done) | (simp [*]; done), by first | (simp; done) | (simp [*]; done)⟩ ?_ ?_
  · rintro k ⟨E, Hx, df⟩ hk ⟨en, edf, eH, e0, e3, eP⟩
    simp only at en edf eH e0 e3
    subst edf; replace eH := eH.symm; subst eH
    have hki : (k : Int) < ((l.length : Nat) : Int) := by omega
    have hkw := wrapSucc k (by omega)
    obtain ⟨c, hc⟩ : ∃ c, l[k]? = some c := ⟨_, List.getElem?_eq_getElem (by omega)⟩
    have bc : byteAt l k = (c.toNat : Int) := byteAt_of hc
    have lc := toNat_lt c
    have hs := all_take_succ isSign l k c hc
    rw [eP, Bool.true_and] at hs
    repeat (first | (with_reducible first | refine seq_k fun K hK => ?_ | refine pwp_block ?_ | refine pwp_skip ?_ | refine pwp_ret ?_ | refine pwp_exit ?_ | refine then_n ?_ | refine then_r ?_ | refine then_e ?_ | refine then_g ?_ | refine inB_n ?_ | refine inB_r ?_ | refine inB_e ?_ | refine inB_o rfl ?_ | refine inB_g ?_ | refine Leads.go (by assumption) ?_) | (with_reducible refine region_k fun K hK => ?_; simp [*]) | (with_reducible refine region_drawT_k mixedO (by decide +kernel) fun K hK => ?_; simp [*]) | (with_reducible refine region_tame_a mixedO (by decide +kernel) fun K hK => ?_; simp [*, Low, isLoadB, isTameB, List.range_succ, List.range']) | (with_reducible refine cond_t ?_ ?_; (focus (simp [*]; done))) | (with_reducible refine cond_f ?_ ?_; (focus (simp [*]; done))))
    refine PCalls.mono (rsign_spec c _) ?_
    intro d3 H3 hd3
    rw [hd3.1, hd3.2]
    clear hd3
    try simp [*]
    by_cases h1 : isSign c = true
    · try simp [*]
      repeat (first | (with_reducible first | refine seq_k fun K hK => ?_ | refine pwp_block ?_ | refine pwp_skip ?_ | refine pwp_ret ?_ | refine pwp_exit ?_ | refine then_n ?_ | refine then_r ?_ | refine then_e ?_ | refine then_g ?_ | refine inB_n ?_ | refine inB_r ?_ | refine inB_e ?_ | refine inB_o rfl ?_ | refine inB_g ?_ | refine Leads.go (by assumption) ?_) | (with_reducible refine region_k fun K hK => ?_; simp [*]) | (with_reducible refine region_drawT_k mixedO (by decide +kernel) fun K hK => ?_; simp [*]) | (with_reducible refine region_tame_a mixedO (by decide +kernel) fun K hK => ?_; simp [*, Low, isLoadB, isTameB, List.range_succ, List.range']) | (with_reducible refine cond_t ?_ ?_; (focus (simp [*]; done))) | (with_reducible refine cond_f ?_ ?_; (focus (simp [*]; done))))
      simp [*]
    · have h1' : isSign c = false := by simpa using h1
      have h5 := all_not isSign l k c hc h1'
      try simp [*]
      repeat (first | (with_reducible first | refine seq_k fun K hK => ?_ | refine pwp_block ?_ | refine pwp_skip ?_ | refine pwp_ret ?_ | refine pwp_exit ?_ | refine then_n ?_ | refine then_r ?_ | refine then_e ?_ | refine then_g ?_ | refine inB_n ?_ | refine inB_r ?_ | refine inB_e ?_ | refine inB_o rfl ?_ | refine inB_g ?_ | refine Leads.go (by assumption) ?_) | (with_reducible refine region_k fun K hK => ?_; simp [*]) | (with_reducible refine region_drawT_k mixedO (by decide +kernel) fun K hK => ?_; simp [*]) | (with_reducible refine region_tame_a mixedO (by decide +kernel) fun K hK => ?_; simp [*, Low, isLoadB, isTameB, List.range_succ, List.range']) | (with_reducible refine cond_t ?_ ?_; (focus (simp [*]; done))) | (with_reducible refine cond_f ?_ ?_; (focus (simp [*]; done))))
      simp [*, signsB]
  · rintro ⟨E, Hx, df⟩ ⟨en, edf, eH, e0, e3, eP⟩
    simp only at en edf eH e0 e3
    subst edf; replace eH := eH.symm; subst eH
    rw [List.take_length] at eP
    repeat (first | (with_reducible first | refine seq_k fun K hK => ?_ | refine pwp_block ?_ | refine pwp_skip ?_ | refine pwp_ret ?_ | refine pwp_exit ?_ | refine then_n ?_ | refine then_r ?_ | refine then_e ?_ | refine then_g ?_ | refine inB_n ?_ | refine inB_r ?_ | refine inB_e ?_ | refine inB_o rfl ?_ | refine inB_g ?_ | refine Leads.go (by assumption) ?_) | (with_reducible refine region_k fun K hK => ?_; simp [*]) | (with_reducible refine region_drawT_k mixedO (by decide +kernel) fun K hK => ?_; simp [*]) | (with_reducible refine region_tame_a mixedO (by decide +kernel) fun K hK => ?_; simp [*, Low, isLoadB, isTameB, List.range_succ, List.range']) | (with_reducible refine cond_t ?_ ?_; (focus (simp [*]; done))) | (with_reducible refine cond_f ?_ ?_; (focus (simp [*]; done))))
    simp [*, signsB]
    cases l <;> simp
set_option maxRecDepth 100000 in
theorem rWord_spec (l : By) (hl : l.length ≤ 100000) (H : Heap) : PCalls Tryz.prog 34 [sD l] H fun d H' => d = .val (.bool (wordB l)) ∧ H' = H := by
  refine PCalls.of_pwp Tryz.call34 Tryz.func34 rfl (by simp [Tryz.ntmps34]) ?_
  rw [Tryz.ntmps34]
  rcases l with _ | ⟨c, l⟩
  · repeat (first | (with_reducible first | refine seq_k fun K hK => ?_ | refine pwp_block ?_ | refine pwp_skip ?_ | refine pwp_ret ?_ | refine pwp_exit ?_ | refine then_n ?_ | refine then_r ?_ | refine then_e ?_ | refine then_g ?_ | refine inB_n ?_ | refine inB_r ?_ | refine inB_e ?_ | refine inB_o rfl ?_ | refine inB_g ?_ | refine Leads.go (by assumption) ?_) | (with_reducible refine region_k fun K hK => ?_; simp [*]) | (with_reducible refine region_drawT_k mixedO (by decide +kernel) fun K hK => ?_; simp [*]) | (with_reducible refine region_tame_a mixedO (by decide +kernel) fun K hK => ?_; simp [*, Low, isLoadB, isTameB, List.range_succ, List.range']) | (with_reducible refine cond_t ?_ ?_; (focus (simp [*]; done))) | (with_reducible refine cond_f ?_ ?_; (focus (simp [*]; done))))
    simp [wordB, signsB]
  · have h0 : (1 : Int) ≤ ((l.length + 1 : Nat) : Int) := by omega
    have bc : byteAt (c :: l) 0 = (c.toNat : Int) := byteAt_of rfl
    by_cases h3 : (l.length + 1 : Nat) ≤ 64
    · have h3' : ((l.length : Nat) : Int) + 1 ≤ 64 := by omega
      have h3'' : 1 ≤ ((l.length : Nat) : Int) + 1 := by omega
      repeat (first | (with_reducible first | refine seq_k fun K hK => ?_ | refine pwp_block ?_ | refine pwp_skip ?_ | refine pwp_ret ?_ | refine pwp_exit ?_ | refine then_n ?_ | refine then_r ?_ | refine then_e ?_ | refine then_g ?_ | refine inB_n ?_ | refine inB_r ?_ | refine inB_e ?_ | refine inB_o rfl ?_ | refine inB_g ?_ | refine Leads.go (by assumption) ?_) | (with_reducible refine region_k fun K hK => ?_; simp [*]) | (with_reducible refine region_drawT_k mixedO (by decide +kernel) fun K hK => ?_; simp [*]) | (with_reducible refine region_tame_a mixedO (by decide +kernel) fun K hK => ?_; simp [*, Low, isLoadB, isTameB, List.range_succ, List.range']) | (with_reducible refine cond_t ?_ ?_; (focus (simp [*]; done))) | (with_reducible refine cond_f ?_ ?_; (focus (simp [*]; done))))
      refine PCalls.mono (rletter_spec c _) ?_
      intro d3 H3 hd3
      rw [hd3.1, hd3.2]
      clear hd3
      try simp [*]
      by_cases h2 : isLet c = true
      · simp [*]
        refine PCalls.mono (rsigns_spec (c :: l) hl _) ?_
        intro d3 H3 hd3
        rw [hd3.1, hd3.2]
        clear hd3
        try simp [*]
        try simp [*]
        repeat (first | (with_reducible first | refine seq_k fun K hK => ?_ | refine pwp_block ?_ | refine pwp_skip ?_ | refine pwp_ret ?_ | refine pwp_exit ?_ | refine then_n ?_ | refine then_r ?_ | refine then_e ?_ | refine then_g ?_ | refine inB_n ?_ | refine inB_r ?_ | refine inB_e ?_ | refine inB_o rfl ?_ | refine inB_g ?_ | refine Leads.go (by assumption) ?_) | (with_reducible refine region_k fun K hK => ?_; simp [*]) | (with_reducible refine region_drawT_k mixedO (by decide +kernel) fun K hK => ?_; simp [*]) | (with_reducible refine region_tame_a mixedO (by decide +kernel) fun K hK => ?_; simp [*, Low, isLoadB, isTameB, List.range_succ, List.range']) | (with_reducible refine cond_t ?_ ?_; (focus (simp [*]; done))) | (with_reducible refine cond_f ?_ ?_; (focus (simp [*]; done))))
        simp [*, wordB]
      · have h2' : isLet c = false := by simpa using h2
        try simp [*]
        repeat (first | (with_reducible first | refine seq_k fun K hK => ?_ | refine pwp_block ?_ | refine pwp_skip ?_ | refine pwp_ret ?_ | refine pwp_exit ?_ | refine then_n ?_ | refine then_r ?_ | refine then_e ?_ | refine then_g ?_ | refine inB_n ?_ | refine inB_r ?_ | refine inB_e ?_ | refine inB_o rfl ?_ | refine inB_g ?_ | refine Leads.go (by assumption) ?_) | (with_reducible refine region_k fun K hK => ?_; simp [*]) | (with_reducible refine region_drawT_k mixedO (by decide +kernel) fun K hK => ?_; simp [*]) | (with_reducible refine region_tame_a mixedO (by decide +kernel) fun K hK => ?_; simp [*, Low, isLoadB, isTameB, List.range_succ, List.range']) | (with_reducible refine cond_t ?_ ?_; (focus (simp [*]; done))) | (with_reducible refine cond_f ?_ ?_; (focus (simp [*]; done))))
        simp [*, wordB]
    · have h3' : ¬ ((l.length : Nat) : Int) + 1 ≤ 64 := by omega
      have h3'' : 1 ≤ ((l.length : Nat) : Int) + 1 := by omega
      repeat (first | (with_reducible first | refine seq_k fun K hK => ?_ | refine pwp_block ?_ | refine pwp_skip ?_ | refine pwp_ret ?_ | refine pwp_exit ?_ | refine then_n ?_ | refine then_r ?_ | refine then_e ?_ | refine then_g ?_ | refine inB_n ?_ | refine inB_r ?_ | refine inB_e ?_ | refine inB_o rfl ?_ | refine inB_g ?_ | refine Leads.go (by assumption) ?_) | (with_reducible refine region_k fun K hK => ?_; simp [*]) | (with_reducible refine region_drawT_k mixedO (by decide +kernel) fun K hK => ?_; simp [*]) | (with_reducible refine region_tame_a mixedO (by decide +kernel) fun K hK => ?_; simp [*, Low, isLoadB, isTameB, List.range_succ, List.range']) | (with_reducible refine cond_t ?_ ?_; (focus (simp [*]; done))) | (with_reducible refine cond_f ?_ ?_; (focus (simp [*]; done))))
      simp [*, wordB]
set_option maxRecDepth 100000 in
theorem rReadDigits_spec (l : By) (hl : l.length ≤ 100000) (H : Heap) : PCalls Tryz.prog 52 [sD l] H fun d H' => d = rdD (readDigits l) ∧ H' = H := by
  refine PCalls.of_pwp Tryz.call52 Tryz.func52 rfl (by simp [Tryz.ntmps52]) ?_
  rw [Tryz.ntmps52]
  by_cases h0 : (l.length : Int) < 1
  · have hr : readDigits l = none := by
      have : l = [] := List.eq_nil_of_length_eq_zero (by omega)
      subst this; rfl
    repeat (first | (with_reducible first | refine seq_k fun K hK => ?_ | refine pwp_block ?_ | refine pwp_skip ?_ | refine pwp_ret ?_ | refine pwp_exit ?_ | refine then_n ?_ | refine then_r ?_ | refine then_e ?_ | refine then_g ?_ | refine inB_n ?_ | refine inB_r ?_ | refine inB_e ?_ | refine inB_o rfl ?_ | refine inB_g ?_ | refine Leads.go (by assumption) ?_) | (with_reducible refine region_k fun K hK => ?_; simp [*]) | (with_reducible refine region_drawT_k mixedO (by decide +kernel) fun K hK => ?_; simp [*]) | (with_reducible refine region_tame_a mixedO (by decide +kernel) fun K hK => ?_; simp [*, Low, isLoadB, isTameB, List.range_succ, List.range']) | (with_reducible refine cond_t ?_ ?_; (focus (simp [*]; done))) | (with_reducible refine cond_f ?_ ?_; (focus (simp [*]; done))))
    simp [*, rdD]
  · obtain ⟨c, hc0⟩ : ∃ c, l[0]? = some c := ⟨_, List.getElem?_eq_getElem (by omega)⟩
    have hcd := hd0_of hc0
    have bc : byteAt l 0 = (c.toNat : Int) := byteAt_of hc0
    have hz : 0 < l.length := by omega
    have hn : l ≠ [] := List.length_pos_iff.1 hz
    by_cases h2 : 18 < (l.length : Int)
    · have hr : readDigits l = none := by
        rw [readDigits, if_neg]; simp [numOk]; intros; omega
      repeat (first | (with_reducible first | refine seq_k fun K hK => ?_ | refine pwp_block ?_ | refine pwp_skip ?_ | refine pwp_ret ?_ | refine pwp_exit ?_ | refine then_n ?_ | refine then_r ?_ | refine then_e ?_ | refine then_g ?_ | refine inB_n ?_ | refine inB_r ?_ | refine inB_e ?_ | refine inB_o rfl ?_ | refine inB_g ?_ | refine Leads.go (by assumption) ?_) | (with_reducible refine region_k fun K hK => ?_; simp [*]) | (with_reducible refine region_drawT_k mixedO (by decide +kernel) fun K hK => ?_; simp [*]) | (with_reducible refine region_tame_a mixedO (by decide +kernel) fun K hK => ?_; simp [*, Low, isLoadB, isTameB, List.range_succ, List.range']) | (with_reducible refine cond_t ?_ ?_; (focus (simp [*]; done))) | (with_reducible refine cond_f ?_ ?_; (focus (simp [*]; done))))
      simp [*, rdD]
    · by_cases h3 : 1 < (l.length : Int) ∧ (c.toNat : Int) = 48
      · obtain ⟨h3, h4⟩ := h3
        have hr : readDigits l = none := by
          rw [readDigits, if_neg]; simp [numOk, hcd]; intros
          exact ⟨by omega, UInt8.toNat_inj.1 (by simpa using (by omega : c.toNat = 48))⟩
        repeat (first | (with_reducible first | refine seq_k fun K hK => ?_ | refine pwp_block ?_ | refine pwp_skip ?_ | refine pwp_ret ?_ | refine pwp_exit ?_ | refine then_n ?_ | refine then_r ?_ | refine then_e ?_ | refine then_g ?_ | refine inB_n ?_ | refine inB_r ?_ | refine inB_e ?_ | refine inB_o rfl ?_ | refine inB_g ?_ | refine Leads.go (by assumption) ?_) | (with_reducible refine region_k fun K hK => ?_; simp [*]) | (with_reducible refine region_drawT_k mixedO (by decide +kernel) fun K hK => ?_; simp [*]) | (with_reducible refine region_tame_a mixedO (by decide +kernel) fun K hK => ?_; simp [*, Low, isLoadB, isTameB, List.range_succ, List.range']) | (with_reducible refine cond_t ?_ ?_; (focus (simp [*]; done))) | (with_reducible refine cond_f ?_ ?_; (focus (simp [*]; done))))
        simp [*, rdD]
      · have hr : readDigits l = if l.all isDig = true then some (digVal l) else none := by
          unfold readDigits
          congr 1
          have h6 : l.length ≤ 1 ∨ ¬ c = 48 := by
            by_cases q : l.length ≤ 1
            · exact .inl q
            · right; intro e; subst e; exact h3 ⟨by omega, rfl⟩
          have h7 : l.length ≤ 18 := by omega
          simp [numOk, hcd, hn, h6, h7]
        by_cases h4 : (c.toNat : Int) = 48
        case' pos =>
          have h5 : ¬ 1 < (l.length : Int) := fun q => h3 ⟨q, h4⟩
          clear h3
          repeat (first | (with_reducible first | refine seq_k fun K hK => ?_ | refine pwp_block ?_ | refine pwp_skip ?_ | refine pwp_ret ?_ | refine pwp_exit ?_ | refine then_n ?_ | refine then_r ?_ | refine then_e ?_ | refine then_g ?_ | refine inB_n ?_ | refine inB_r ?_ | refine inB_e ?_ | refine inB_o rfl ?_ | refine inB_g ?_ | refine Leads.go (by assumption) ?_) | (with_reducible refine region_k fun K hK => ?_; simp [*]) | (with_reducible refine region_drawT_k mixedO (by decide +kernel) fun K hK => ?_; simp [*]) | (with_reducible refine region_tame_a mixedO (by decide +kernel) fun K hK => ?_; simp [*, Low, isLoadB, isTameB, List.range_succ, List.range']) | (with_reducible refine cond_t ?_ ?_; (focus (simp [*]; done))) | (with_reducible refine cond_f ?_ ?_; (focus (simp [*]; done))))
        case' neg =>
          repeat (first | (with_reducible first | refine seq_k fun K hK => ?_ | refine pwp_block ?_ | refine pwp_skip ?_ | refine pwp_ret ?_ | refine pwp_exit ?_ | refine then_n ?_ | refine then_r ?_ | refine then_e ?_ | refine then_g ?_ | refine inB_n ?_ | refine inB_r ?_ | refine inB_e ?_ | refine inB_o rfl ?_ | refine inB_g ?_ | refine Leads.go (by assumption) ?_) | (with_reducible refine region_k fun K hK => ?_; simp [*]) | (with_reducible refine region_drawT_k mixedO (by decide +kernel) fun K hK => ?_; simp [*]) | (with_reducible refine region_tame_a mixedO (by decide +kernel) fun K hK => ?_; simp [*, Low, isLoadB, isTameB, List.range_succ, List.range']) | (with_reducible refine cond_t ?_ ?_; (focus (simp [*]; done))) | (with_reducible refine cond_f ?_ ?_; (focus (simp [*]; done))))
        all_goals
          clear bc
          refine pwp_for (l.length) (fun k st => st.env.n = 44 ∧ st.df = [] ∧ st.H = H ∧ st.env.get 0 = sD l ∧ st.env.get 5 = .val (.int .i64 k) ∧ st.env.get 4 = .val (.int .i64 (digVal (l.take k) : Nat)) ∧ (Hold ((l.take k).all isDig = true))) ⟨by first | (simp; done) | (simp [*]; done), rfl, by first | rfl | simp, by first | (simp; done) | (simp [*]; done), by first | (simp; done) | (simp [*]; done), by first | (simp; done) | (simp [*]; done), by first | done | exact ⟨by simp⟩ | simp⟩ ?_ ?_
          · rintro k ⟨E, Hx, df⟩ hk ⟨en, edf, eH, e0, e5, e4, eP⟩
            simp only at en edf eH e0 e5 e4
            subst edf; replace eH := eH.symm; subst eH
            have hki : (k : Int) < ((l.length : Nat) : Int) := by omega
            have hkw := wrapSucc k (by omega)
            obtain ⟨x, hx⟩ : ∃ x, l[k]? = some x := ⟨_, List.getElem?_eq_getElem (by omega)⟩
            have bx : byteAt l k = (x.toNat : Int) := byteAt_of hx
            have lx := toNat_lt x
            have hs := all_take_succ isDig l k x (by assumption)
            rw [eP.out, Bool.true_and] at hs
            have hf : digVal (l.take k) < 100000000000000000 := by
              have h1 := digVal_lt _ eP.out
              have h3 : (l.take k).length ≤ 17 := by rw [List.length_take]; omega
              exact Nat.lt_of_lt_of_le h1 (Nat.pow_le_pow_right (by decide) h3)
            have hv := digVal_take l k x (by assumption)
            obtain ⟨v, hvk⟩ : ∃ v, digVal (l.take k) = v := ⟨_, rfl⟩
            rw [hvk] at hv hf e4
            repeat (first | (with_reducible first | refine seq_k fun K hK => ?_ | refine pwp_block ?_ | refine pwp_skip ?_ | refine pwp_ret ?_ | refine pwp_exit ?_ | refine then_n ?_ | refine then_r ?_ | refine then_e ?_ | refine then_g ?_ | refine inB_n ?_ | refine inB_r ?_ | refine inB_e ?_ | refine inB_o rfl ?_ | refine inB_g ?_ | refine Leads.go (by assumption) ?_) | (with_reducible refine region_k fun K hK => ?_; simp [*]) | (with_reducible refine region_drawT_k mixedO (by decide +kernel) fun K hK => ?_; simp [*]) | (with_reducible refine region_tame_a mixedO (by decide +kernel) fun K hK => ?_; simp [*, Low, isLoadB, isTameB, List.range_succ, List.range']) | (with_reducible refine cond_t ?_ ?_; (focus (simp [*]; done))) | (with_reducible refine cond_f ?_ ?_; (focus (simp [*]; done))))
            refine PCalls.mono (rdigit_spec x _) ?_
            intro d3 H3 hd3
            rw [hd3.1, hd3.2]
            clear hd3
            try simp [*]
            by_cases hdx : isDig x = true
            · have hx := hdx
              simp only [isDig, decide_eq_true_eq] at hx
              have w1 := wrapI ((v : Int) * 10) (by omega) (by omega)
              have w2 := wrapI (x.toNat : Int) (by omega) (by omega)
              have w3 := wrapI ((v : Int) * 10 + (x.toNat : Int)) (by omega) (by omega)
              have w4 : IntKind.i64.wrap ((v : Int) * 10 + (x.toNat : Int) - 48) = ((v * 10 + (x.toNat - 48) : Nat) : Int) := by rw [wrapI _ (by omega) (by omega)]; omega
              rw [hdx] at hs
              have hq := Hold.mk hs
              clear hs
              try simp [*]
              repeat (first | (with_reducible first | refine seq_k fun K hK => ?_ | refine pwp_block ?_ | refine pwp_skip ?_ | refine pwp_ret ?_ | refine pwp_exit ?_ | refine then_n ?_ | refine then_r ?_ | refine then_e ?_ | refine then_g ?_ | refine inB_n ?_ | refine inB_r ?_ | refine inB_e ?_ | refine inB_o rfl ?_ | refine inB_g ?_ | refine Leads.go (by assumption) ?_) | (with_reducible refine region_k fun K hK => ?_; simp [*]) | (with_reducible refine region_drawT_k mixedO (by decide +kernel) fun K hK => ?_; simp [*]) | (with_reducible refine region_tame_a mixedO (by decide +kernel) fun K hK => ?_; simp [*, Low, isLoadB, isTameB, List.range_succ, List.range']) | (with_reducible refine cond_t ?_ ?_; (focus (simp [*]; done))) | (with_reducible refine cond_f ?_ ?_; (focus (simp [*]; done))))
              simp [*]
              exact ⟨by simpa using hq.out⟩
            · have hdx' : isDig x = false := by simpa using hdx
              have h5 := all_not isDig l k x (by assumption) hdx'
              rw [h5] at hr
              try simp [*]
              repeat (first | (with_reducible first | refine seq_k fun K hK => ?_ | refine pwp_block ?_ | refine pwp_skip ?_ | refine pwp_ret ?_ | refine pwp_exit ?_ | refine then_n ?_ | refine then_r ?_ | refine then_e ?_ | refine then_g ?_ | refine inB_n ?_ | refine inB_r ?_ | refine inB_e ?_ | refine inB_o rfl ?_ | refine inB_g ?_ | refine Leads.go (by assumption) ?_) | (with_reducible refine region_k fun K hK => ?_; simp [*]) | (with_reducible refine region_drawT_k mixedO (by decide +kernel) fun K hK => ?_; simp [*]) | (with_reducible refine region_tame_a mixedO (by decide +kernel) fun K hK => ?_; simp [*, Low, isLoadB, isTameB, List.range_succ, List.range']) | (with_reducible refine cond_t ?_ ?_; (focus (simp [*]; done))) | (with_reducible refine cond_f ?_ ?_; (focus (simp [*]; done))))
              simp [*, rdD]
          · rintro ⟨E, Hx, df⟩ ⟨en, edf, eH, e0, e5, e4, eP⟩
            simp only at en edf eH e0 e5 e4
            subst edf; replace eH := eH.symm; subst eH
            rw [List.take_length] at e4 eP
            rw [eP.out] at hr
            repeat (first | (with_reducible first | refine seq_k fun K hK => ?_ | refine pwp_block ?_ | refine pwp_skip ?_ | refine pwp_ret ?_ | refine pwp_exit ?_ | refine then_n ?_ | refine then_r ?_ | refine then_e ?_ | refine then_g ?_ | refine inB_n ?_ | refine inB_r ?_ | refine inB_e ?_ | refine inB_o rfl ?_ | refine inB_g ?_ | refine Leads.go (by assumption) ?_) | (with_reducible refine region_k fun K hK => ?_; simp [*]) | (with_reducible refine region_drawT_k mixedO (by decide +kernel) fun K hK => ?_; simp [*]) | (with_reducible refine region_tame_a mixedO (by decide +kernel) fun K hK => ?_; simp [*, Low, isLoadB, isTameB, List.range_succ, List.range']) | (with_reducible refine cond_t ?_ ?_; (focus (simp [*]; done))) | (with_reducible refine cond_f ?_ ?_; (focus (simp [*]; done))))
            simp [*, rdD]
end Go.Pv
-- ZpvTameA ZpvDrawT
namespace Go.Pv
open Go.Proofs
attribute [-simp] eLen UInt8.ofNat_add

/-! ### Parts, as the document's answer finds them -/
theorem set_last {α : Type} (l : List α) (h : l ≠ []) (x : α) : l.set (l.length - 1) x = l.dropLast ++ [x] := by
  have h1 : l = l.dropLast ++ [l.getLast h] := (List.dropLast_concat_getLast h).symm
  have h2 : l.length - 1 = l.dropLast.length := by simp
  rw [h2]
  conv => lhs; rw [h1]
  have h3 : (l.dropLast ++ [l.getLast h]).dropLast.length = l.dropLast.length := by simp
  rw [h3, List.set_append_right _ _ (Nat.le_refl _)]
  simp
set_option maxHeartbeats 4000000 in
set_option maxRecDepth 100000 in
theorem rparts_local (l : By) (c : UInt8) (hl : l.length ≤ 100000) : PCalls Tryz.prog 51 [sD l, .val (.int .u8 (c.toNat : Nat))] (noHeap noG) fun d H' => fz Tryz.prog 3 H' d = some (.slice 0 9 ((splitB c l).map sD)) := by
  refine PCalls.of_pwp Tryz.call51 Tryz.func51 rfl (by simp [Tryz.ntmps51]) ?_
  rw [Tryz.ntmps51]
  repeat (first | (with_reducible first | refine seq_k fun K hK => ?_ | refine pwp_block ?_ | refine pwp_skip ?_ | refine pwp_ret ?_ | refine pwp_exit ?_ | refine then_n ?_ | refine then_r ?_ | refine then_e ?_ | refine then_g ?_ | refine inB_n ?_ | refine inB_r ?_ | refine inB_e ?_ | refine inB_o rfl ?_ | refine inB_g ?_ | refine Leads.go (by assumption) ?_) | (with_reducible refine region_k fun K hK => ?_; simp [*]) | (with_reducible refine region_drawT_k mixedO (by decide +kernel) fun K hK => ?_; simp [*]) | (with_reducible refine region_tame_a mixedO (by decide +kernel) fun K hK => ?_; simp [*, Low, isLoadB, isTameB, List.range_succ, List.range']) | (with_reducible refine cond_t ?_ ?_; (focus (simp [*]; done))) | (with_reducible refine cond_f ?_ ?_; (focus (simp [*]; done))))
  refine pwp_for (l.length) (fun k st => st.env.n = 40 ∧ st.df = [] ∧ st.env.get 0 = sD l ∧ st.env.get 1 = .val (.int .u8 (c.toNat : Nat)) ∧ st.env.get 6 = .val (.int .i64 (k : Nat)) ∧ (∃ i, i < st.H.nx ∧ st.env.get 5 = .row i 9 0 (splitB c (l.take k)).length ∧ st.H.get i = some (.row 9 ((splitB c (l.take k)).map sD)))) ⟨by first | (simp; done) | (simp [*]; done), rfl, by first | (simp; done) | (simp [*]; done), by first | (simp; done) | (simp [*]; done), by first | (simp; done) | (simp [*]; done), ?_⟩ ?_ ?_
  · exact ⟨0, by simp, by simp [splitB], by simp [splitB]⟩
  · rintro k ⟨E, Hx, df⟩ hk ⟨en, edf, e0, e1, e6, eP⟩
    simp only at en edf e0 e1 e6
    subst edf
    have hki : (k : Int) < ((l.length : Nat) : Int) := by omega
    have hkw := wrapSucc k (by omega)
    obtain ⟨i, hi, e5, hgi⟩ := eP
    simp only at hi e5 hgi
    obtain ⟨x, hx⟩ : ∃ x, l[k]? = some x := ⟨_, List.getElem?_eq_getElem (by omega)⟩
    have bx : byteAt l k = (x.toNat : Int) := byteAt_of hx
    have lx := toNat_lt x
    have hsn := splitB_snoc c x (l.take k)
    rw [show l.take k ++ [x] = l.take (k + 1) by rw [List.take_add_one, hx]; rfl] at hsn
    have hne := splitB_ne c (l.take k)
    have hcnt : (splitB c (l.take k)).length ≤ 100001 := by
      rw [splitB_len]
      have := List.count_le_length (a := c) (l := l.take k)
      rw [List.length_take] at this; omega
    obtain ⟨S, hS⟩ : ∃ S, splitB c (l.take k) = S := ⟨_, rfl⟩
    obtain ⟨S', hS'⟩ : ∃ S', splitB c (l.take (k + 1)) = S' := ⟨_, rfl⟩
    simp only [hS, hS'] at hsn hne hcnt hgi e5
    obtain ⟨m, hm⟩ : ∃ m, S.length = m + 1 := ⟨S.length - 1, by have := List.length_pos_iff.2 hne; omega⟩
    by_cases hxc : x = c
    · rw [if_pos hxc] at hsn
      subst hxc
      have hG : Grow Hx (.row i 9 0 (S.map sD).length) 9 (S.map sD) := .inr ⟨i, hi, rfl, hgi, by simp [hne]⟩
      rw [List.length_map, hm] at hG
      have hz := Hold.mk hsn
      clear hsn
      repeat (first | (with_reducible first | refine seq_k fun K hK => ?_ | refine pwp_block ?_ | refine pwp_skip ?_ | refine pwp_ret ?_ | refine pwp_exit ?_ | refine then_n ?_ | refine then_r ?_ | refine then_e ?_ | refine then_g ?_ | refine inB_n ?_ | refine inB_r ?_ | refine inB_e ?_ | refine inB_o rfl ?_ | refine inB_g ?_ | refine Leads.go (by assumption) ?_) | (with_reducible refine region_k fun K hK => ?_; simp [*]) | (with_reducible refine region_drawT_k mixedO (by decide +kernel) fun K hK => ?_; simp [*]) | (with_reducible refine region_tame_a mixedO (by decide +kernel) fun K hK => ?_; simp [*, Low, isLoadB, isTameB, List.range_succ, List.range']) | (with_reducible refine cond_t ?_ ?_; (focus (simp [*]; done))) | (with_reducible refine cond_f ?_ ?_; (focus (simp [*]; done))))
      refine oK_grow hG ?_ ?_
      · first | (simp; done) | (simp; omega) | omega
      intro d2 H2 hG2 hn2 hH2 hf2
      try simp [*]
      repeat (first | (with_reducible first | refine seq_k fun K hK => ?_ | refine pwp_block ?_ | refine pwp_skip ?_ | refine pwp_ret ?_ | refine pwp_exit ?_ | refine then_n ?_ | refine then_r ?_ | refine then_e ?_ | refine then_g ?_ | refine inB_n ?_ | refine inB_r ?_ | refine inB_e ?_ | refine inB_o rfl ?_ | refine inB_g ?_ | refine Leads.go (by assumption) ?_) | (with_reducible refine region_k fun K hK => ?_; simp [*]) | (with_reducible refine region_drawT_k mixedO (by decide +kernel) fun K hK => ?_; simp [*]) | (with_reducible refine region_tame_a mixedO (by decide +kernel) fun K hK => ?_; simp [*, Low, isLoadB, isTameB, List.range_succ, List.range']) | (with_reducible refine cond_t ?_ ?_; (focus (simp [*]; done))) | (with_reducible refine cond_f ?_ ?_; (focus (simp [*]; done))))
      simp [*]
      rcases hG2 with ⟨hb, _⟩ | ⟨i2, hi2, h2, hg2, _⟩
      · simp at hb
      · have hz := hz.out
        refine ⟨i2, by omega, ?_, ?_⟩
        · rw [h2, hz]; simp
        · rw [hg2, hz]; simp
    · rw [if_neg hxc] at hsn
      have hxi : ¬ (x.toNat : Int) = (c.toNat : Int) := fun q => hxc (UInt8.toNat_inj.1 (by omega))
      have hxn : ¬ x.toNat = c.toNat := fun q => hxc (UInt8.toNat_inj.1 q)
      obtain ⟨z, hz⟩ : ∃ z, S.getLast hne = z := ⟨_, rfl⟩
      rw [hz] at hsn
      have hzl : z.length ≤ 100000 := by
        have h1 := splitB_parts c (l.take k) z (by rw [hS, ← hz]; exact List.getLast_mem hne)
        rw [List.length_take] at h1; omega
      have hSm : S[m]? = some z := by
        rw [← hz, List.getLast_eq_getElem, ← List.getElem?_eq_getElem]; congr 1; omega
      have hW : (S.map sD)[m]? = some (sD z) := by rw [List.getElem?_map, hSm]; rfl
      have hset : (S.map sD).set m (sD (z ++ [x])) = S'.map sD := by
        rw [hsn, ← List.map_set]
        congr 1
        rw [← set_last S hne]
        congr 1; omega
      have hSl : S'.length = m + 1 := by rw [hsn]; simp; omega
      rw [hm] at e5
      have hWl : (S.map sD).length = m + 1 := by simp [hm]
      generalize S.map sD = W at *
      simp only [sD] at hW hset
      have hWg := get_of hW
      have w1 := wrapI (m : Int) (by omega) (by omega)
      have w2 : IntKind.i64.wrap ((m : Int) + 1 - 1) = (m : Int) := by rw [wrapI _ (by omega) (by omega)]; omega
      have w3 := wrapI ((k : Int) + 1) (by omega) (by omega)
      have w4 : (k : Int) ≤ (k : Int) + 1 := by omega
      have w5 : (k : Int) + 1 ≤ (l.length : Int) := by omega
      have w6 : (m : Int) < (m : Int) + 1 := by omega
      have w7 : (l.take (k + 1)).drop k = [x] := by rw [List.take_add_one, hx]; exact List.drop_left' (by simp; omega)
      have w8 : z.length + 1 ≤ 9223372036854775807 := by omega
      have kp := Hold.mk (And.intro hS (And.intro hS' hsn))
      clear hS hS' hsn hne hz hSm
      repeat (first | (with_reducible first | refine seq_k fun K hK => ?_ | refine pwp_block ?_ | refine pwp_skip ?_ | refine pwp_ret ?_ | refine pwp_exit ?_ | refine then_n ?_ | refine then_r ?_ | refine then_e ?_ | refine then_g ?_ | refine inB_n ?_ | refine inB_r ?_ | refine inB_e ?_ | refine inB_o rfl ?_ | refine inB_g ?_ | refine Leads.go (by assumption) ?_) | (with_reducible refine region_k fun K hK => ?_; simp [*]) | (with_reducible refine region_drawT_k mixedO (by decide +kernel) fun K hK => ?_; simp [*]) | (with_reducible refine region_tame_a mixedO (by decide +kernel) fun K hK => ?_; simp [*, Low, isLoadB, isTameB, List.range_succ, List.range']) | (with_reducible refine cond_t ?_ ?_; (focus (simp [*]; done))) | (with_reducible refine cond_f ?_ ?_; (focus (simp [*]; done))))
      simp [*]
      exact ⟨i, hi, ⟨rfl, by rw [kp.out.2.1, hSl]⟩, by rw [kp.out.2.1, if_pos rfl]⟩
  · rintro ⟨E, Hx, df⟩ ⟨en, edf, e0, e1, e6, eP⟩
    simp only at en edf e0 e1 e6
    subst edf
    obtain ⟨i, hi, e5, hgi⟩ := eP
    simp only [List.take_length] at hi e5 hgi
    have hne := splitB_ne c l
    have hG : Grow Hx (.row i 9 0 ((splitB c l).map sD).length) 9 ((splitB c l).map sD) := .inr ⟨i, hi, rfl, hgi, by simp [hne]⟩
    have hfz := hG.fz (n := 2) (fz_vals (P := Tryz.prog) (fun s : By => .string ⟨s.toArray⟩) 1 _ (splitB c l))
    rw [List.length_map, frD, if_neg (by simp [hne])] at hfz
    generalize splitB c l = S at *
    repeat (first | (with_reducible first | refine seq_k fun K hK => ?_ | refine pwp_block ?_ | refine pwp_skip ?_ | refine pwp_ret ?_ | refine pwp_exit ?_ | refine then_n ?_ | refine then_r ?_ | refine then_e ?_ | refine then_g ?_ | refine inB_n ?_ | refine inB_r ?_ | refine inB_e ?_ | refine inB_o rfl ?_ | refine inB_g ?_ | refine Leads.go (by assumption) ?_) | (with_reducible refine region_k fun K hK => ?_; simp [*]) | (with_reducible refine region_drawT_k mixedO (by decide +kernel) fun K hK => ?_; simp [*]) | (with_reducible refine region_tame_a mixedO (by decide +kernel) fun K hK => ?_; simp [*, Low, isLoadB, isTameB, List.range_succ, List.range']) | (with_reducible refine cond_t ?_ ?_; (focus (simp [*]; done))) | (with_reducible refine cond_f ?_ ?_; (focus (simp [*]; done))))
    simp [*]
    try exact hfz
set_option maxRecDepth 100000 in
theorem rparts_spec (l : By) (c : UInt8) (hl : l.length ≤ 100000) (H : Heap) : PCalls Tryz.prog 51 [sD l, .val (.int .u8 (c.toNat : Nat))] H fun d H' => d = .slice 0 9 ((splitB c l).map sD) ∧ H' = H :=
  PCalls.liftG (PCalls.frozen (rparts_local l c hl)) (fun d hd => by
    simp only [List.mem_cons, List.mem_nil_iff, or_false] at hd
    rcases hd with rfl | rfl <;> exact .val _) (pure_strs _ _ _) H
theorem joinB_len (c : UInt8) (b : Nat) : ∀ ps : List By, (∀ p ∈ ps, p.length ≤ b) → (joinB c ps).length ≤ ps.length * (b + 1)
  | [], _ => by simp [joinB]
  | [p], h => by have := h p (by simp); simp [joinB]; omega
  | p :: q :: ps, h => by
    have h1 := h p (by simp)
    have h2 := joinB_len c b (q :: ps) (fun x hx => h x (by simp [hx]))
    rw [joinB_cons _ _ _ (by simp), List.length_append, List.length_cons]
    simp only [List.length_cons, Nat.succ_mul, Nat.add_mul] at *
    omega
theorem arcs_len {l : By} (h : (splitB 46 l).all okP = true) (h2 : (splitB 46 l).length ≤ 16) : l.length ≤ 176 := by
  have h1 := joinB_len 46 10 (splitB 46 l) (fun p hp => (okP_read (List.all_eq_true.1 h p hp)).2.1)
  rw [join_split] at h1
  omega
set_option maxHeartbeats 4000000 in
set_option maxRecDepth 100000 in
theorem rArcs_local (l : By) (hl : l.length ≤ 100000) : PCalls Tryz.prog 33 [sD l] (noHeap noG) fun d H' => fz Tryz.prog 4 H' d = some (arcsD (arcsM l)) := by
  refine PCalls.of_pwp Tryz.call33 Tryz.func33 rfl (by simp [Tryz.ntmps33]) ?_
  rw [Tryz.ntmps33]
  have hnn : arcsM l = none → arcsD (arcsM l) = .tup [.slice 1 0 [], .val (.bool false)] := fun h => by rw [h]; rfl
  have hno := @arcs_none l
  have hlen200 := @arcs_len l
  have hps := splitB_parts 46 l
  have hdef : arcsM l = if (splitB 46 l).all okP = true then (if arcOk ((splitB 46 l).map digVal) = true then some ((splitB 46 l).map digVal) else none) else none := rfl
  obtain ⟨ps, hpe⟩ : ∃ ps, splitB 46 l = ps := ⟨_, rfl⟩
  obtain ⟨r, hr⟩ : ∃ r, arcsM l = r := ⟨_, rfl⟩
  have hSp := rparts_spec l 46 hl
  have h46 : (((46 : UInt8).toNat : Nat) : Int) = 46 := rfl
  rw [h46] at hSp
  have hpl : ps.length ≤ 100001 := by rw [← hpe, splitB_len]; have := List.count_le_length (a := (46 : UInt8)) (l := l); omega
  rw [hpe] at hno hps hdef hSp hlen200
  rw [hr] at hno hdef hnn ⊢
  by_cases h200 : 200 < (l.length : Int)
  · have hrn : r = none := by
      by_cases q : ps.all okP = true
      · refine hno (.inr ?_)
        rcases Nat.lt_or_ge 16 ps.length with q2 | q2
        · exact q2
        · have := hlen200 q q2; omega
      · exact hno (.inl (by simpa using q))
    rw [hnn hrn]
    clear hno hnn hlen200 hps hdef hSp
    repeat (first | (with_reducible first | refine seq_k fun K hK => ?_ | refine pwp_block ?_ | refine pwp_skip ?_ | refine pwp_ret ?_ | refine pwp_exit ?_ | refine then_n ?_ | refine then_r ?_ | refine then_e ?_ | refine then_g ?_ | refine inB_n ?_ | refine inB_r ?_ | refine inB_e ?_ | refine inB_o rfl ?_ | refine inB_g ?_ | refine Leads.go (by assumption) ?_) | (with_reducible refine region_k fun K hK => ?_; simp [*]) | (with_reducible refine region_drawT_k mixedO (by decide +kernel) fun K hK => ?_; simp [*]) | (with_reducible refine region_tame_a mixedO (by decide +kernel) fun K hK => ?_; simp [*, Low, isLoadB, isTameB, List.range_succ, List.range']) | (with_reducible refine cond_t ?_ ?_; (focus (simp [*]; done))) | (with_reducible refine cond_f ?_ ?_; (focus (simp [*]; done))))
    simp [*]
    rfl
  clear hlen200
  obtain ⟨N, hN⟩ : ∃ N, ps.map (fun p => natD (digVal p)) = N := ⟨_, rfl⟩
  have hNl : N.length = ps.length := by rw [← hN]; simp
  repeat (first | (with_reducible first | refine seq_k fun K hK => ?_ | refine pwp_block ?_ | refine pwp_skip ?_ | refine pwp_ret ?_ | refine pwp_exit ?_ | refine then_n ?_ | refine then_r ?_ | refine then_e ?_ | refine then_g ?_ | refine inB_n ?_ | refine inB_r ?_ | refine inB_e ?_ | refine inB_o rfl ?_ | refine inB_g ?_ | refine Leads.go (by assumption) ?_) | (with_reducible refine region_k fun K hK => ?_; simp [*]) | (with_reducible refine region_drawT_k mixedO (by decide +kernel) fun K hK => ?_; simp [*]) | (with_reducible refine region_tame_a mixedO (by decide +kernel) fun K hK => ?_; simp [*, Low, isLoadB, isTameB, List.range_succ, List.range']) | (with_reducible refine cond_t ?_ ?_; (focus (simp [*]; done))) | (with_reducible refine cond_f ?_ ?_; (focus (simp [*]; done))))
  refine PCalls.mono (hSp _) ?_
  intro d3 H3 hd3
  rw [hd3.1, hd3.2]
  clear hd3
  try simp [*]
  repeat (first | (with_reducible first | refine seq_k fun K hK => ?_ | refine pwp_block ?_ | refine pwp_skip ?_ | refine pwp_ret ?_ | refine pwp_exit ?_ | refine then_n ?_ | refine then_r ?_ | refine then_e ?_ | refine then_g ?_ | refine inB_n ?_ | refine inB_r ?_ | refine inB_e ?_ | refine inB_o rfl ?_ | refine inB_g ?_ | refine Leads.go (by assumption) ?_) | (with_reducible refine region_k fun K hK => ?_; simp [*]) | (with_reducible refine region_drawT_k mixedO (by decide +kernel) fun K hK => ?_; simp [*]) | (with_reducible refine region_tame_a mixedO (by decide +kernel) fun K hK => ?_; simp [*, Low, isLoadB, isTameB, List.range_succ, List.range']) | (with_reducible refine cond_t ?_ ?_; (focus (simp [*]; done))) | (with_reducible refine cond_f ?_ ?_; (focus (simp [*]; done))))
  refine pwp_for (ps.length) (fun k st => st.env.n = 69 ∧ st.df = [] ∧ st.env.get 4 = .slice 0 9 (ps.map sD) ∧ st.env.get 6 = .val (.int .i64 (k : Nat)) ∧ (Hold ((ps.take k).all okP = true) ∧ ∃ d, st.env.get 5 = d ∧ Grow st.H d 3 (N.take k))) ⟨by first | (simp; done) | (simp [*]; done), rfl, by first | (simp; done) | (simp [*]; done), by first | (simp; done) | (simp [*]; done), ?_⟩ ?_ ?_
  · exact ⟨⟨by simp⟩, .slice 1 0 [], by simp, by simpa using Grow.nil _ _⟩
  · rintro k ⟨E, Hx, df⟩ hk ⟨en, edf, e4, e6, eP⟩
    simp only at en edf e4 e6
    subst edf
    have hki : (k : Int) < ((ps.length : Nat) : Int) := by omega
    have hkw := wrapSucc k (by omega)
    obtain ⟨⟨hall⟩, d, e5, hG⟩ := eP
    simp only at e5 hG
    obtain ⟨p, hp⟩ : ∃ p, ps[k]? = some p := ⟨_, List.getElem?_eq_getElem hk⟩
    have hpp := hps p (List.mem_of_getElem? hp)
    have hpm : (ps.map sD)[k]? = some (sD p) := by rw [List.getElem?_map, hp]; rfl
    have hgd : (ps.map sD).getD k .undef = sD p := by rw [List.getD, hpm]; rfl
    have hgl := get_of hpm
    have hgl2 := get_of hp
    have hml : (ps.map sD).length = ps.length := by simp
    have hs := all_take_succ' okP ps k p hp
    rw [hall, Bool.true_and] at hs
    have hNk : N[k]? = some (natD (digVal p)) := by rw [← hN, List.getElem?_map, hp]; rfl
    have htm : N.take (k + 1) = N.take k ++ [natD (digVal p)] := by rw [List.take_add_one, hNk]; rfl
    simp only [natD] at htm hNk
    have hR := rReadDigits_spec p (by omega)
    have hb : (N.take k).length = k := by simp; omega
    have kp := Hold.mk (And.intro hall (And.intro hno hnn))
    clear hall hno hnn hps hdef hpp hSp
    simp only [sD] at hgd hgl
    by_cases ho : okP p = true
    · obtain ⟨hrd, hp10, hlt⟩ := okP_read ho
      have hp10' : ¬ 10 < (p.length : Int) := by omega
      rw [ho] at hs
      simp only [hrd, rdD, Option.getD, Option.isSome] at hR
      repeat (first | (with_reducible first | refine seq_k fun K hK => ?_ | refine pwp_block ?_ | refine pwp_skip ?_ | refine pwp_ret ?_ | refine pwp_exit ?_ | refine then_n ?_ | refine then_r ?_ | refine then_e ?_ | refine then_g ?_ | refine inB_n ?_ | refine inB_r ?_ | refine inB_e ?_ | refine inB_o rfl ?_ | refine inB_g ?_ | refine Leads.go (by assumption) ?_) | (with_reducible refine region_k fun K hK => ?_; simp [*]) | (with_reducible refine region_drawT_k mixedO (by decide +kernel) fun K hK => ?_; simp [*]) | (with_reducible refine region_tame_a mixedO (by decide +kernel) fun K hK => ?_; simp [*, Low, isLoadB, isTameB, List.range_succ, List.range']) | (with_reducible refine cond_t ?_ ?_; (focus (simp [*]; done))) | (with_reducible refine cond_f ?_ ?_; (focus (simp [*]; done))))
      refine PCalls.mono (hR _) ?_
      intro d3 H3 hd3
      rw [hd3.1, hd3.2]
      clear hd3
      try simp [*]
      try simp [*]
      repeat (first | (with_reducible first | refine seq_k fun K hK => ?_ | refine pwp_block ?_ | refine pwp_skip ?_ | refine pwp_ret ?_ | refine pwp_exit ?_ | refine then_n ?_ | refine then_r ?_ | refine then_e ?_ | refine then_g ?_ | refine inB_n ?_ | refine inB_r ?_ | refine inB_e ?_ | refine inB_o rfl ?_ | refine inB_g ?_ | refine Leads.go (by assumption) ?_) | (with_reducible refine region_k fun K hK => ?_; simp [*]) | (with_reducible refine region_drawT_k mixedO (by decide +kernel) fun K hK => ?_; simp [*]) | (with_reducible refine region_tame_a mixedO (by decide +kernel) fun K hK => ?_; simp [*, Low, isLoadB, isTameB, List.range_succ, List.range']) | (with_reducible refine cond_t ?_ ?_; (focus (simp [*]; done))) | (with_reducible refine cond_f ?_ ?_; (focus (simp [*]; done))))
      refine oK_grow hG ?_ ?_
      · first | (simp; done) | (simp; omega) | omega
      intro d2 H2 hG2 hn2 hH2 hf2
      try simp [*]
      repeat (first | (with_reducible first | refine seq_k fun K hK => ?_ | refine pwp_block ?_ | refine pwp_skip ?_ | refine pwp_ret ?_ | refine pwp_exit ?_ | refine then_n ?_ | refine then_r ?_ | refine then_e ?_ | refine then_g ?_ | refine inB_n ?_ | refine inB_r ?_ | refine inB_e ?_ | refine inB_o rfl ?_ | refine inB_g ?_ | refine Leads.go (by assumption) ?_) | (with_reducible refine region_k fun K hK => ?_; simp [*]) | (with_reducible refine region_drawT_k mixedO (by decide +kernel) fun K hK => ?_; simp [*]) | (with_reducible refine region_tame_a mixedO (by decide +kernel) fun K hK => ?_; simp [*, Low, isLoadB, isTameB, List.range_succ, List.range']) | (with_reducible refine cond_t ?_ ?_; (focus (simp [*]; done))) | (with_reducible refine cond_f ?_ ?_; (focus (simp [*]; done))))
      simp [*]
      have hh : Hold ((ps.take (k + 1)).all okP = true) := ⟨hs⟩
      first
      | exact ⟨trivial⟩
      | exact hG2
      | exact ⟨by simpa using hh, hG2⟩
      | (trace_state; done)
    · have ho' : okP p = false := by simpa using ho
      have hrn : r = none := kp.out.2.1 (.inl (all_not' okP ps k p hp ho'))
      have hfin := kp.out.2.2 hrn
      rw [hfin]
      by_cases hp10 : 10 < (p.length : Int)
      · obtain ⟨o, hrd⟩ : ∃ o, readDigits p = o := ⟨_, rfl⟩
        rw [hrd] at hR
        rcases o with _ | n
        · simp only [rdD, Option.getD, Option.isSome] at hR
          repeat (first | (with_reducible first | refine seq_k fun K hK => ?_ | refine pwp_block ?_ | refine pwp_skip ?_ | refine pwp_ret ?_ | refine pwp_exit ?_ | refine then_n ?_ | refine then_r ?_ | refine then_e ?_ | refine then_g ?_ | refine inB_n ?_ | refine inB_r ?_ | refine inB_e ?_ | refine inB_o rfl ?_ | refine inB_g ?_ | refine Leads.go (by assumption) ?_) | (with_reducible refine region_k fun K hK => ?_; simp [*]) | (with_reducible refine region_drawT_k mixedO (by decide +kernel) fun K hK => ?_; simp [*]) | (with_reducible refine region_tame_a mixedO (by decide +kernel) fun K hK => ?_; simp [*, Low, isLoadB, isTameB, List.range_succ, List.range']) | (with_reducible refine cond_t ?_ ?_; (focus (simp [*]; done))) | (with_reducible refine cond_f ?_ ?_; (focus (simp [*]; done))))
          refine PCalls.mono (hR _) ?_
          intro d3 H3 hd3
          rw [hd3.1, hd3.2]
          clear hd3
          try simp [*]
          try simp [*]
          repeat (first | (with_reducible first | refine seq_k fun K hK => ?_ | refine pwp_block ?_ | refine pwp_skip ?_ | refine pwp_ret ?_ | refine pwp_exit ?_ | refine then_n ?_ | refine then_r ?_ | refine then_e ?_ | refine then_g ?_ | refine inB_n ?_ | refine inB_r ?_ | refine inB_e ?_ | refine inB_o rfl ?_ | refine inB_g ?_ | refine Leads.go (by assumption) ?_) | (with_reducible refine region_k fun K hK => ?_; simp [*]) | (with_reducible refine region_drawT_k mixedO (by decide +kernel) fun K hK => ?_; simp [*]) | (with_reducible refine region_tame_a mixedO (by decide +kernel) fun K hK => ?_; simp [*, Low, isLoadB, isTameB, List.range_succ, List.range']) | (with_reducible refine cond_t ?_ ?_; (focus (simp [*]; done))) | (with_reducible refine cond_f ?_ ?_; (focus (simp [*]; done))))
          simp [*]
          rfl
        · simp only [rdD, Option.getD, Option.isSome] at hR
          repeat (first | (with_reducible first | refine seq_k fun K hK => ?_ | refine pwp_block ?_ | refine pwp_skip ?_ | refine pwp_ret ?_ | refine pwp_exit ?_ | refine then_n ?_ | refine then_r ?_ | refine then_e ?_ | refine then_g ?_ | refine inB_n ?_ | refine inB_r ?_ | refine inB_e ?_ | refine inB_o rfl ?_ | refine inB_g ?_ | refine Leads.go (by assumption) ?_) | (with_reducible refine region_k fun K hK => ?_; simp [*]) | (with_reducible refine region_drawT_k mixedO (by decide +kernel) fun K hK => ?_; simp [*]) | (with_reducible refine region_tame_a mixedO (by decide +kernel) fun K hK => ?_; simp [*, Low, isLoadB, isTameB, List.range_succ, List.range']) | (with_reducible refine cond_t ?_ ?_; (focus (simp [*]; done))) | (with_reducible refine cond_f ?_ ?_; (focus (simp [*]; done))))
          refine PCalls.mono (hR _) ?_
          intro d3 H3 hd3
          rw [hd3.1, hd3.2]
          clear hd3
          try simp [*]
          try simp [*]
          repeat (first | (with_reducible first | refine seq_k fun K hK => ?_ | refine pwp_block ?_ | refine pwp_skip ?_ | refine pwp_ret ?_ | refine pwp_exit ?_ | refine then_n ?_ | refine then_r ?_ | refine then_e ?_ | refine then_g ?_ | refine inB_n ?_ | refine inB_r ?_ | refine inB_e ?_ | refine inB_o rfl ?_ | refine inB_g ?_ | refine Leads.go (by assumption) ?_) | (with_reducible refine region_k fun K hK => ?_; simp [*]) | (with_reducible refine region_drawT_k mixedO (by decide +kernel) fun K hK => ?_; simp [*]) | (with_reducible refine region_tame_a mixedO (by decide +kernel) fun K hK => ?_; simp [*, Low, isLoadB, isTameB, List.range_succ, List.range']) | (with_reducible refine cond_t ?_ ?_; (focus (simp [*]; done))) | (with_reducible refine cond_f ?_ ?_; (focus (simp [*]; done))))
          simp [*]
          rfl
      · have hrd := okP_not ho' (by omega)
        simp only [hrd, rdD, Option.getD, Option.isSome] at hR
        repeat (first | (with_reducible first | refine seq_k fun K hK => ?_ | refine pwp_block ?_ | refine pwp_skip ?_ | refine pwp_ret ?_ | refine pwp_exit ?_ | refine then_n ?_ | refine then_r ?_ | refine then_e ?_ | refine then_g ?_ | refine inB_n ?_ | refine inB_r ?_ | refine inB_e ?_ | refine inB_o rfl ?_ | refine inB_g ?_ | refine Leads.go (by assumption) ?_) | (with_reducible refine region_k fun K hK => ?_; simp [*]) | (with_reducible refine region_drawT_k mixedO (by decide +kernel) fun K hK => ?_; simp [*]) | (with_reducible refine region_tame_a mixedO (by decide +kernel) fun K hK => ?_; simp [*, Low, isLoadB, isTameB, List.range_succ, List.range']) | (with_reducible refine cond_t ?_ ?_; (focus (simp [*]; done))) | (with_reducible refine cond_f ?_ ?_; (focus (simp [*]; done))))
        refine PCalls.mono (hR _) ?_
        intro d3 H3 hd3
        rw [hd3.1, hd3.2]
        clear hd3
        try simp [*]
        try simp [*]
        repeat (first | (with_reducible first | refine seq_k fun K hK => ?_ | refine pwp_block ?_ | refine pwp_skip ?_ | refine pwp_ret ?_ | refine pwp_exit ?_ | refine then_n ?_ | refine then_r ?_ | refine then_e ?_ | refine then_g ?_ | refine inB_n ?_ | refine inB_r ?_ | refine inB_e ?_ | refine inB_o rfl ?_ | refine inB_g ?_ | refine Leads.go (by assumption) ?_) | (with_reducible refine region_k fun K hK => ?_; simp [*]) | (with_reducible refine region_drawT_k mixedO (by decide +kernel) fun K hK => ?_; simp [*]) | (with_reducible refine region_tame_a mixedO (by decide +kernel) fun K hK => ?_; simp [*, Low, isLoadB, isTameB, List.range_succ, List.range']) | (with_reducible refine cond_t ?_ ?_; (focus (simp [*]; done))) | (with_reducible refine cond_f ?_ ?_; (focus (simp [*]; done))))
        simp [*]
        rfl
  · rintro ⟨E, Hx, df⟩ ⟨en, edf, e4, e6, eP⟩
    simp only at en edf e4 e6
    subst edf
    obtain ⟨⟨hall⟩, d, e5, hG⟩ := eP
    simp only [List.take_length] at e5 hG hall
    rw [hall, if_pos rfl] at hdef
    have hlen := lenG58 hG
    rw [List.take_of_length_le (by omega)] at hG hlen
    rw [hNl] at hlen
    rw [← hN] at hG
    clear hps hSp hN hNl
    rcases ps with _ | ⟨pa, ps⟩
    · exact absurd hpe (splitB_ne _ _)
    rcases ps with _ | ⟨pb, ps⟩
    · have hrn : r = none := by rw [hdef]; rfl
      rw [hnn hrn]
      clear hno
      simp only [List.length_cons, List.length_nil, Nat.zero_add] at *
      repeat (first | (with_reducible first | refine seq_k fun K hK => ?_ | refine pwp_block ?_ | refine pwp_skip ?_ | refine pwp_ret ?_ | refine pwp_exit ?_ | refine then_n ?_ | refine then_r ?_ | refine then_e ?_ | refine then_g ?_ | refine inB_n ?_ | refine inB_r ?_ | refine inB_e ?_ | refine inB_o rfl ?_ | refine inB_g ?_ | refine Leads.go (by assumption) ?_) | (with_reducible refine region_k fun K hK => ?_; simp [*]) | (with_reducible refine region_drawT_k mixedO (by decide +kernel) fun K hK => ?_; simp [*]) | (with_reducible refine region_tame_a mixedO (by decide +kernel) fun K hK => ?_; simp [*, Low, isLoadB, isTameB, List.range_succ, List.range']) | (with_reducible refine cond_t ?_ ?_; (focus (simp [*]; done))) | (with_reducible refine cond_f ?_ ?_; (focus (simp [*]; done))))
      simp [*]
      rfl
    · rcases hG with ⟨hb, _⟩ | ⟨i, hi, rfl, hgi, _⟩
      · simp at hb
      have hl2 : ¬ ((ps.length : Int) + 1 + 1 < 2) := by omega
      have hl3 : (1 : Int) < (ps.length : Int) + 1 + 1 := by omega
      have hl4 : (0 : Int) < (ps.length : Int) + 1 + 1 := by omega
      by_cases h16 : 16 < (ps.length : Int) + 1 + 1
      · have hrn : r = none := hno (.inr (by simp; omega))
        rw [hnn hrn]
        clear hno hnn hdef
        simp only [List.map_cons, List.length_cons, List.length_map] at *
        repeat (first | (with_reducible first | refine seq_k fun K hK => ?_ | refine pwp_block ?_ | refine pwp_skip ?_ | refine pwp_ret ?_ | refine pwp_exit ?_ | refine then_n ?_ | refine then_r ?_ | refine then_e ?_ | refine then_g ?_ | refine inB_n ?_ | refine inB_r ?_ | refine inB_e ?_ | refine inB_o rfl ?_ | refine inB_g ?_ | refine Leads.go (by assumption) ?_) | (with_reducible refine region_k fun K hK => ?_; simp [*]) | (with_reducible refine region_drawT_k mixedO (by decide +kernel) fun K hK => ?_; simp [*]) | (with_reducible refine region_tame_a mixedO (by decide +kernel) fun K hK => ?_; simp [*, Low, isLoadB, isTameB, List.range_succ, List.range']) | (with_reducible refine cond_t ?_ ?_; (focus (simp [*]; done))) | (with_reducible refine cond_f ?_ ?_; (focus (simp [*]; done))))
        simp [*]
        rfl
      clear hno
      simp only [List.map_cons, List.length_cons, List.length_map] at *
      have hr14 : (List.map digVal ps).length ≤ 14 := by simp; omega
      have hao : arcOk (digVal pa :: digVal pb :: List.map digVal ps) = (decide (digVal pa ≤ 2) && (decide (2 ≤ digVal pa) || decide (digVal pb < 40))) := by
        simp only [arcOk, hr14, decide_true, Bool.true_and]
      rw [hao] at hdef
      have hfz : ∀ H : Heap, mapO (fz Tryz.prog 2 H) (natD (digVal pa) :: natD (digVal pb) :: List.map (fun p => natD (digVal p)) ps) = some (natD (digVal pa) :: natD (digVal pb) :: List.map (fun p => natD (digVal p)) ps) := fun H =>
        fz_vals (fun p : By => .int .i64 ((digVal p : Nat) : Int)) 1 H (pa :: pb :: ps)
      have kp := Hold.mk hfz
      generalize hA : List.map (fun p => natD (digVal p)) ps = A at *
      have hAl : A.length = ps.length := by rw [← hA]; simp
      clear hao hr14 hfz hlen
      generalize digVal pa = a at *
      generalize digVal pb = b at *
      have fin : r = some (a :: b :: List.map digVal ps) → fz Tryz.prog 4 Hx (.tup [.row i 3 0 (ps.length + 1 + 1), .val (.bool true)]) = some (arcsD (some (a :: b :: List.map digVal ps))) := fun _ => by
        have g : Grow Hx (.row i 3 0 (natD a :: natD b :: A).length) 3 (natD a :: natD b :: A) := .inr ⟨i, hi, rfl, hgi, by simp⟩
        have h2 := fz_two (n := 2) (v := .bool true) (g.fz (kp.out _))
        simp only [List.length_cons, hAl] at h2
        rw [h2, arcsD, frD, if_neg (by simp), ← hA]
        simp
      simp only [natD] at hgi
      by_cases h1 : 2 < (a : Int)
      · have hrn : r = none := by rw [hdef]; simp; omega
        rw [hnn hrn]
        clear hdef hnn
        repeat (first | (with_reducible first | refine seq_k fun K hK => ?_ | refine pwp_block ?_ | refine pwp_skip ?_ | refine pwp_ret ?_ | refine pwp_exit ?_ | refine then_n ?_ | refine then_r ?_ | refine then_e ?_ | refine then_g ?_ | refine inB_n ?_ | refine inB_r ?_ | refine inB_e ?_ | refine inB_o rfl ?_ | refine inB_g ?_ | refine Leads.go (by assumption) ?_) | (with_reducible refine region_k fun K hK => ?_; simp [*]) | (with_reducible refine region_drawT_k mixedO (by decide +kernel) fun K hK => ?_; simp [*]) | (with_reducible refine region_tame_a mixedO (by decide +kernel) fun K hK => ?_; simp [*, Low, isLoadB, isTameB, List.range_succ, List.range']) | (with_reducible refine cond_t ?_ ?_; (focus (simp [*]; done))) | (with_reducible refine cond_f ?_ ?_; (focus (simp [*]; done))))
        simp [*]
        rfl
      · by_cases h2 : (a : Int) < 2
        · by_cases h3 : 39 < (b : Int)
          · have hrn : r = none := by rw [hdef]; simp; omega
            rw [hnn hrn]
            clear hdef hnn
            repeat (first | (with_reducible first | refine seq_k fun K hK => ?_ | refine pwp_block ?_ | refine pwp_skip ?_ | refine pwp_ret ?_ | refine pwp_exit ?_ | refine then_n ?_ | refine then_r ?_ | refine then_e ?_ | refine then_g ?_ | refine inB_n ?_ | refine inB_r ?_ | refine inB_e ?_ | refine inB_o rfl ?_ | refine inB_g ?_ | refine Leads.go (by assumption) ?_) | (with_reducible refine region_k fun K hK => ?_; simp [*]) | (with_reducible refine region_drawT_k mixedO (by decide +kernel) fun K hK => ?_; simp [*]) | (with_reducible refine region_tame_a mixedO (by decide +kernel) fun K hK => ?_; simp [*, Low, isLoadB, isTameB, List.range_succ, List.range']) | (with_reducible refine cond_t ?_ ?_; (focus (simp [*]; done))) | (with_reducible refine cond_f ?_ ?_; (focus (simp [*]; done))))
            simp [*]
            rfl
          · have hrs : r = some (a :: b :: List.map digVal ps) := by rw [hdef, if_pos]; simp; omega
            clear hdef hnn
            repeat (first | (with_reducible first | refine seq_k fun K hK => ?_ | refine pwp_block ?_ | refine pwp_skip ?_ | refine pwp_ret ?_ | refine pwp_exit ?_ | refine then_n ?_ | refine then_r ?_ | refine then_e ?_ | refine then_g ?_ | refine inB_n ?_ | refine inB_r ?_ | refine inB_e ?_ | refine inB_o rfl ?_ | refine inB_g ?_ | refine Leads.go (by assumption) ?_) | (with_reducible refine region_k fun K hK => ?_; simp [*]) | (with_reducible refine region_drawT_k mixedO (by decide +kernel) fun K hK => ?_; simp [*]) | (with_reducible refine region_tame_a mixedO (by decide +kernel) fun K hK => ?_; simp [*, Low, isLoadB, isTameB, List.range_succ, List.range']) | (with_reducible refine cond_t ?_ ?_; (focus (simp [*]; done))) | (with_reducible refine cond_f ?_ ?_; (focus (simp [*]; done))))
            simp [*]
            try exact fin hrs
        · have hrs : r = some (a :: b :: List.map digVal ps) := by rw [hdef, if_pos]; simp; omega
          clear hdef hnn
          repeat (first | (with_reducible first | refine seq_k fun K hK => ?_ | refine pwp_block ?_ | refine pwp_skip ?_ | refine pwp_ret ?_ | refine pwp_exit ?_ | refine then_n ?_ | refine then_r ?_ | refine then_e ?_ | refine then_g ?_ | refine inB_n ?_ | refine inB_r ?_ | refine inB_e ?_ | refine inB_o rfl ?_ | refine inB_g ?_ | refine Leads.go (by assumption) ?_) | (with_reducible refine region_k fun K hK => ?_; simp [*]) | (with_reducible refine region_drawT_k mixedO (by decide +kernel) fun K hK => ?_; simp [*]) | (with_reducible refine region_tame_a mixedO (by decide +kernel) fun K hK => ?_; simp [*, Low, isLoadB, isTameB, List.range_succ, List.range']) | (with_reducible refine cond_t ?_ ?_; (focus (simp [*]; done))) | (with_reducible refine cond_f ?_ ?_; (focus (simp [*]; done))))
          simp [*]
          try exact fin hrs
set_option maxRecDepth 100000 in
theorem rArcs_spec (l : By) (hl : l.length ≤ 100000) (H : Heap) : PCalls Tryz.prog 33 [sD l] H fun d H' => d = arcsD (arcsM l) ∧ H' = H :=
  PCalls.liftG (PCalls.frozen (rArcs_local l hl)) (fun d hd => by
    simp only [List.mem_cons, List.mem_nil_iff, or_false] at hd
    subst hd; exact .val _) (pure_arcs _) H
end Go.Pv
-- ZpvTameA ZpvDrawT
namespace Go.Pv
open Go.Proofs
attribute [-simp] eLen UInt8.ofNat_add

def LowGrow (l : By) (k : Nat) (H : Heap) (d : D) : Prop := Grow H d 5 (((l.take k).map lowB).map byD)
set_option maxHeartbeats 4000000 in
set_option maxRecDepth 100000 in
theorem rLower_local (l : By) (hl : l.length ≤ 100000) : PCalls Tryz.prog 36 [sD l] (noHeap noG) fun d _ => d = sD (lowL l) := by
  refine PCalls.of_pwp Tryz.call36 Tryz.func36 rfl (by simp [Tryz.ntmps36]) ?_
  rw [Tryz.ntmps36]
  repeat (first | (with_reducible first | refine seq_k fun K hK => ?_ | refine pwp_block ?_ | refine pwp_skip ?_ | refine pwp_ret ?_ | refine pwp_exit ?_ | refine then_n ?_ | refine then_r ?_ | refine then_e ?_ | refine then_g ?_ | refine inB_n ?_ | refine inB_r ?_ | refine inB_e ?_ | refine inB_o rfl ?_ | refine inB_g ?_ | refine Leads.go (by assumption) ?_) | (with_reducible refine region_k fun K hK => ?_; simp [*]) | (with_reducible refine region_drawT_k mixedO (by decide +kernel) fun K hK => ?_; simp [*]) | (with_reducible refine region_tame_a mixedO (by decide +kernel) fun K hK => ?_; simp [*, Low, isLoadB, isTameB, List.range_succ, List.range']) | (with_reducible refine cond_t ?_ ?_; (focus (simp [*]; done))) | (with_reducible refine cond_f ?_ ?_; (focus (simp [*]; done))))
  refine pwp_for (l.length) (fun k st => st.env.n = 29 ∧ st.df = [] ∧ st.env.get 0 = sD l ∧ st.env.get 4 = .val (.int .i64 (k : Nat)) ∧ (LowGrow l k st.H (st.env.get 3))) ⟨by first | (simp; done) | (simp [*]; done), rfl, by first | (simp; done) | (simp [*]; done), by first | (simp; done) | (simp [*]; done), ?_⟩ ?_ ?_
  · unfold LowGrow; simpa using Grow.nil _ _
  · rintro k ⟨E, Hx, df⟩ hk ⟨en, edf, e0, e4, eP⟩
    simp only at en edf e0 e4
    subst edf
    have hki : (k : Int) < ((l.length : Nat) : Int) := by omega
    have hkw := wrapSucc k (by omega)
    obtain ⟨d3, e3⟩ : ∃ d, E.get 3 = d := ⟨_, rfl⟩
    simp only [e3, LowGrow] at eP
    obtain ⟨c, hc⟩ : ∃ c, l[k]? = some c := ⟨_, List.getElem?_eq_getElem (by omega)⟩
    have bc : byteAt l k = (c.toNat : Int) := byteAt_of hc
    have lc := toNat_lt c
    have hsc : ((l.take (k + 1)).map lowB).map byD = ((l.take k).map lowB).map byD ++ [byD (lowB c)] := by rw [List.take_add_one, hc]; simp
    have hbd : (((l.take k).map lowB).map byD).length ≤ 100000 := by simp; omega
    generalize ((l.take k).map lowB).map byD = M at *
    by_cases h1 : 65 ≤ (c.toNat : Int)
    · by_cases h2 : (c.toNat : Int) ≤ 90
      · have hup := lowB_up c h1 h2
        repeat (first | (with_reducible first | refine seq_k fun K hK => ?_ | refine pwp_block ?_ | refine pwp_skip ?_ | refine pwp_ret ?_ | refine pwp_exit ?_ | refine then_n ?_ | refine then_r ?_ | refine then_e ?_ | refine then_g ?_ | refine inB_n ?_ | refine inB_r ?_ | refine inB_e ?_ | refine inB_o rfl ?_ | refine inB_g ?_ | refine Leads.go (by assumption) ?_) | (with_reducible refine region_k fun K hK => ?_; simp [*]) | (with_reducible refine region_drawT_k mixedO (by decide +kernel) fun K hK => ?_; simp [*]) | (with_reducible refine region_tame_a mixedO (by decide +kernel) fun K hK => ?_; simp [*, Low, isLoadB, isTameB, List.range_succ, List.range']) | (with_reducible refine cond_t ?_ ?_; (focus (simp [*]; done))) | (with_reducible refine cond_f ?_ ?_; (focus (simp [*]; done))))
        refine oK_grow eP ?_ ?_
        · omega
        intro d2 H2 hG2 hn2 hH2 hf2
        try simp [*]
        repeat (first | (with_reducible first | refine seq_k fun K hK => ?_ | refine pwp_block ?_ | refine pwp_skip ?_ | refine pwp_ret ?_ | refine pwp_exit ?_ | refine then_n ?_ | refine then_r ?_ | refine then_e ?_ | refine then_g ?_ | refine inB_n ?_ | refine inB_r ?_ | refine inB_e ?_ | refine inB_o rfl ?_ | refine inB_g ?_ | refine Leads.go (by assumption) ?_) | (with_reducible refine region_k fun K hK => ?_; simp [*]) | (with_reducible refine region_drawT_k mixedO (by decide +kernel) fun K hK => ?_; simp [*]) | (with_reducible refine region_tame_a mixedO (by decide +kernel) fun K hK => ?_; simp [*, Low, isLoadB, isTameB, List.range_succ, List.range']) | (with_reducible refine cond_t ?_ ?_; (focus (simp [*]; done))) | (with_reducible refine cond_f ?_ ?_; (focus (simp [*]; done))))
        simp [*]
        unfold LowGrow
        rw [hsc]; exact hG2
      · have hkp := lowB_keep c (fun h => h2 h.2)
        rw [hkp] at hsc
        repeat (first | (with_reducible first | refine seq_k fun K hK => ?_ | refine pwp_block ?_ | refine pwp_skip ?_ | refine pwp_ret ?_ | refine pwp_exit ?_ | refine then_n ?_ | refine then_r ?_ | refine then_e ?_ | refine then_g ?_ | refine inB_n ?_ | refine inB_r ?_ | refine inB_e ?_ | refine inB_o rfl ?_ | refine inB_g ?_ | refine Leads.go (by assumption) ?_) | (with_reducible refine region_k fun K hK => ?_; simp [*]) | (with_reducible refine region_drawT_k mixedO (by decide +kernel) fun K hK => ?_; simp [*]) | (with_reducible refine region_tame_a mixedO (by decide +kernel) fun K hK => ?_; simp [*, Low, isLoadB, isTameB, List.range_succ, List.range']) | (with_reducible refine cond_t ?_ ?_; (focus (simp [*]; done))) | (with_reducible refine cond_f ?_ ?_; (focus (simp [*]; done))))
        refine oK_grow eP ?_ ?_
        · omega
        intro d2 H2 hG2 hn2 hH2 hf2
        try simp [*]
        repeat (first | (with_reducible first | refine seq_k fun K hK => ?_ | refine pwp_block ?_ | refine pwp_skip ?_ | refine pwp_ret ?_ | refine pwp_exit ?_ | refine then_n ?_ | refine then_r ?_ | refine then_e ?_ | refine then_g ?_ | refine inB_n ?_ | refine inB_r ?_ | refine inB_e ?_ | refine inB_o rfl ?_ | refine inB_g ?_ | refine Leads.go (by assumption) ?_) | (with_reducible refine region_k fun K hK => ?_; simp [*]) | (with_reducible refine region_drawT_k mixedO (by decide +kernel) fun K hK => ?_; simp [*]) | (with_reducible refine region_tame_a mixedO (by decide +kernel) fun K hK => ?_; simp [*, Low, isLoadB, isTameB, List.range_succ, List.range']) | (with_reducible refine cond_t ?_ ?_; (focus (simp [*]; done))) | (with_reducible refine cond_f ?_ ?_; (focus (simp [*]; done))))
        simp [*]
        unfold LowGrow
        rw [hsc]; exact hG2
    · have hkp := lowB_keep c (fun h => h1 h.1)
      rw [hkp] at hsc
      repeat (first | (with_reducible first | refine seq_k fun K hK => ?_ | refine pwp_block ?_ | refine pwp_skip ?_ | refine pwp_ret ?_ | refine pwp_exit ?_ | refine then_n ?_ | refine then_r ?_ | refine then_e ?_ | refine then_g ?_ | refine inB_n ?_ | refine inB_r ?_ | refine inB_e ?_ | refine inB_o rfl ?_ | refine inB_g ?_ | refine Leads.go (by assumption) ?_) | (with_reducible refine region_k fun K hK => ?_; simp [*]) | (with_reducible refine region_drawT_k mixedO (by decide +kernel) fun K hK => ?_; simp [*]) | (with_reducible refine region_tame_a mixedO (by decide +kernel) fun K hK => ?_; simp [*, Low, isLoadB, isTameB, List.range_succ, List.range']) | (with_reducible refine cond_t ?_ ?_; (focus (simp [*]; done))) | (with_reducible refine cond_f ?_ ?_; (focus (simp [*]; done))))
      refine oK_grow eP ?_ ?_
      · omega
      intro d2 H2 hG2 hn2 hH2 hf2
      try simp [*]
      repeat (first | (with_reducible first | refine seq_k fun K hK => ?_ | refine pwp_block ?_ | refine pwp_skip ?_ | refine pwp_ret ?_ | refine pwp_exit ?_ | refine then_n ?_ | refine then_r ?_ | refine then_e ?_ | refine then_g ?_ | refine inB_n ?_ | refine inB_r ?_ | refine inB_e ?_ | refine inB_o rfl ?_ | refine inB_g ?_ | refine Leads.go (by assumption) ?_) | (with_reducible refine region_k fun K hK => ?_; simp [*]) | (with_reducible refine region_drawT_k mixedO (by decide +kernel) fun K hK => ?_; simp [*]) | (with_reducible refine region_tame_a mixedO (by decide +kernel) fun K hK => ?_; simp [*, Low, isLoadB, isTameB, List.range_succ, List.range']) | (with_reducible refine cond_t ?_ ?_; (focus (simp [*]; done))) | (with_reducible refine cond_f ?_ ?_; (focus (simp [*]; done))))
      simp [*]
      unfold LowGrow
      rw [hsc]; exact hG2
  · rintro ⟨E, Hx, df⟩ ⟨en, edf, e0, e4, eP⟩
    simp only at en edf e0 e4
    subst edf
    obtain ⟨d3, e3⟩ : ∃ d, E.get 3 = d := ⟨_, rfl⟩
    simp only [e3, LowGrow, List.take_length] at eP
    have hts := eToStr_by (l.map lowB)
    have hlz : lowL l = l.map lowB := rfl
    have hll : ((l.map lowB).map byD).length = l.length := by simp
    rcases eP with ⟨hz, rfl⟩ | ⟨i, hi, rfl, hgi, _⟩
    · have : l = [] := by simpa using hz
      subst this
      clear hts hll hlz
      have h0s : eToStr [] = some (.val (.string ⟨#[]⟩)) := rfl
      repeat (first | (with_reducible first | refine seq_k fun K hK => ?_ | refine pwp_block ?_ | refine pwp_skip ?_ | refine pwp_ret ?_ | refine pwp_exit ?_ | refine then_n ?_ | refine then_r ?_ | refine then_e ?_ | refine then_g ?_ | refine inB_n ?_ | refine inB_r ?_ | refine inB_e ?_ | refine inB_o rfl ?_ | refine inB_g ?_ | refine Leads.go (by assumption) ?_) | (with_reducible refine region_k fun K hK => ?_; simp [*]) | (with_reducible refine region_drawT_k mixedO (by decide +kernel) fun K hK => ?_; simp [*]) | (with_reducible refine region_tame_a mixedO (by decide +kernel) fun K hK => ?_; simp [*, Low, isLoadB, isTameB, List.range_succ, List.range']) | (with_reducible refine cond_t ?_ ?_; (focus (simp [*]; done))) | (with_reducible refine cond_f ?_ ?_; (focus (simp [*]; done))))
      simp [*, lowL]
    · have htk : ((l.map lowB).map byD).take l.length = (l.map lowB).map byD := List.take_of_length_le (by omega)
      rw [hll] at e3
      obtain ⟨M, hM⟩ : ∃ M, (l.map lowB).map byD = M := ⟨_, rfl⟩
      rw [hM] at hgi hts hll htk
      clear hM
      repeat (first | (with_reducible first | refine seq_k fun K hK => ?_ | refine pwp_block ?_ | refine pwp_skip ?_ | refine pwp_ret ?_ | refine pwp_exit ?_ | refine then_n ?_ | refine then_r ?_ | refine then_e ?_ | refine then_g ?_ | refine inB_n ?_ | refine inB_r ?_ | refine inB_e ?_ | refine inB_o rfl ?_ | refine inB_g ?_ | refine Leads.go (by assumption) ?_) | (with_reducible refine region_k fun K hK => ?_; simp [*]) | (with_reducible refine region_drawT_k mixedO (by decide +kernel) fun K hK => ?_; simp [*]) | (with_reducible refine region_tame_a mixedO (by decide +kernel) fun K hK => ?_; simp [*, Low, isLoadB, isTameB, List.range_succ, List.range']) | (with_reducible refine cond_t ?_ ?_; (focus (simp [*]; done))) | (with_reducible refine cond_f ?_ ?_; (focus (simp [*]; done))))
      simp [*]
set_option maxRecDepth 100000 in
theorem rLower_spec (l : By) (hl : l.length ≤ 100000) (H : Heap) : PCalls Tryz.prog 36 [sD l] H fun d H' => d = sD (lowL l) ∧ H' = H :=
  PCalls.alone (vs := [.string ⟨l.toArray⟩]) (rLower_local l hl) H
/-! ### The document's classes -/
theorem rclasses_run : runFz Tryz.prog 100 55 [] = some (.slice 0 62 ((List.range 10).map clD)) := by kernel_rfl
set_option maxRecDepth 100000 in
theorem rClasses_spec (H : Heap) : PCalls Tryz.prog 55 [] H fun d H' => d = .slice 0 62 ((List.range 10).map clD) ∧ H' = H :=
  PCalls.liftG (runFz_spec mixedO rclasses_run) (fun d hd => by cases hd) (pure_of 20 _ (by kernel_rfl)) H
@[simp] theorem rzd_cl : zeroD Tryz.prog 62 = some (cellsD (clD 10)) := by kernel_rfl
@[simp] theorem rze_cl : zeroElem Tryz.prog 62 = some (clD 10) := by kernel_rfl
attribute [local simp] Heap.new_ne Heap.put_ne fillD
set_option maxHeartbeats 4000000 in
set_option maxRecDepth 100000 in
theorem rFindClass_local (s : By) (hs : s.length ≤ 100000) : PCalls Tryz.prog 35 [sD s] (noHeap noG) fun d _ => d = .tup [clD (fcls s), .val (.bool (decide (fcls s < 10)))] := by
  refine PCalls.of_pwp Tryz.call35 Tryz.func35 rfl (by simp [Tryz.ntmps35]) ?_
  rw [Tryz.ntmps35]
  repeat (first | (with_reducible first | refine seq_k fun K hK => ?_ | refine pwp_block ?_ | refine pwp_skip ?_ | refine pwp_ret ?_ | refine pwp_exit ?_ | refine then_n ?_ | refine then_r ?_ | refine then_e ?_ | refine then_g ?_ | refine inB_n ?_ | refine inB_r ?_ | refine inB_e ?_ | refine inB_o rfl ?_ | refine inB_g ?_ | refine Leads.go (by assumption) ?_) | (with_reducible refine region_k fun K hK => ?_; simp [*]) | (with_reducible refine region_drawT_k mixedO (by decide +kernel) fun K hK => ?_; simp [*]) | (with_reducible refine region_tame_a mixedO (by decide +kernel) fun K hK => ?_; simp [*, Low, isLoadB, isTameB, List.range_succ, List.range']) | (with_reducible refine cond_t ?_ ?_; (focus (simp [*]; done))) | (with_reducible refine cond_f ?_ ?_; (focus (simp [*]; done))))
  refine PCalls.mono (rClasses_spec _) ?_
  intro d3 H3 hd3
  rw [hd3.1, hd3.2]
  clear hd3
  try simp [*]
  repeat (first | (with_reducible first | refine seq_k fun K hK => ?_ | refine pwp_block ?_ | refine pwp_skip ?_ | refine pwp_ret ?_ | refine pwp_exit ?_ | refine then_n ?_ | refine then_r ?_ | refine then_e ?_ | refine then_g ?_ | refine inB_n ?_ | refine inB_r ?_ | refine inB_e ?_ | refine inB_o rfl ?_ | refine inB_g ?_ | refine Leads.go (by assumption) ?_) | (with_reducible refine region_k fun K hK => ?_; simp [*]) | (with_reducible refine region_drawT_k mixedO (by decide +kernel) fun K hK => ?_; simp [*]) | (with_reducible refine region_tame_a mixedO (by decide +kernel) fun K hK => ?_; simp [*, Low, isLoadB, isTameB, List.range_succ, List.range']) | (with_reducible refine cond_t ?_ ?_; (focus (simp [*]; done))) | (with_reducible refine cond_f ?_ ?_; (focus (simp [*]; done))))
  refine PCalls.mono (rLower_spec s hs _) ?_
  intro d3 H3 hd3
  rw [hd3.1, hd3.2]
  clear hd3
  try simp [*]
  repeat (first | (with_reducible first | refine seq_k fun K hK => ?_ | refine pwp_block ?_ | refine pwp_skip ?_ | refine pwp_ret ?_ | refine pwp_exit ?_ | refine then_n ?_ | refine then_r ?_ | refine then_e ?_ | refine then_g ?_ | refine inB_n ?_ | refine inB_r ?_ | refine inB_e ?_ | refine inB_o rfl ?_ | refine inB_g ?_ | refine Leads.go (by assumption) ?_) | (with_reducible refine region_k fun K hK => ?_; simp [*]) | (with_reducible refine region_drawT_k mixedO (by decide +kernel) fun K hK => ?_; simp [*]) | (with_reducible refine region_tame_a mixedO (by decide +kernel) fun K hK => ?_; simp [*, Low, isLoadB, isTameB, List.range_succ, List.range']) | (with_reducible refine cond_t ?_ ?_; (focus (simp [*]; done))) | (with_reducible refine cond_f ?_ ?_; (focus (simp [*]; done))))
  refine pwp_loop (fun m st => ∃ k, k ≤ 10 ∧ m = 10 - k ∧ st.env.n = 38 ∧ st.df = [] ∧ st.env.get 0 = sD s ∧ st.env.get 2 = .ptr 0 0 ∧ st.env.get 5 = sD (lowL s) ∧ st.env.get 4 = .slice 0 62 ((List.range 10).map clD) ∧
    st.env.get 6 = .val (.int .i64 k) ∧ 0 < st.H.nx ∧ st.H.get 0 = some (.cells (cellsD (clD 10))) ∧ ∀ j, j < k → hit s j = false) 10 ?_ ?_
  · refine ⟨0, by omega, by omega, by simp, rfl, by simp, by simp, by simp, by simp, by simp, Nat.zero_lt_succ _, Heap.new_same _ _, fun j hj => by omega⟩
  · rintro m ⟨E, H, df⟩ ⟨k, hk, rfl, en, edf, e0, e2, e5, e4, e6, eN, eH, eP⟩
    simp only at en edf e0 e2 e4 e5 e6 eN eH
    subst edf
    have hL10 : ((List.range 10).map clD).length = 10 := by simp
    by_cases h : k < 10
    · have hki : (k : Int) < 10 := by omega
      have hL : ((List.range 10).map clD)[k]? = some (clD k) := by rw [List.getElem?_map, List.getElem?_range h]; rfl
      have hge := get_of hL
      have hns := nm_small k
      have hgd : ((List.range 10).map clD).getD k .undef = clD k := by rw [List.getD, hL]; rfl
      generalize (List.range 10).map clD = L at *
      have hn0 : (0 : Nat) ≠ H.nx := by omega
      have hw := wrapSucc k (by omega)
      by_cases h1 : lowL s = lowL (nm k)
      · repeat (first | (with_reducible first | refine seq_k fun K hK => ?_ | refine pwp_block ?_ | refine pwp_skip ?_ | refine pwp_ret ?_ | refine pwp_exit ?_ | refine then_n ?_ | refine then_r ?_ | refine then_e ?_ | refine then_g ?_ | refine inB_n ?_ | refine inB_r ?_ | refine inB_e ?_ | refine inB_o rfl ?_ | refine inB_g ?_ | refine Leads.go (by assumption) ?_) | (with_reducible refine region_k fun K hK => ?_; simp [*]) | (with_reducible refine region_drawT_k mixedO (by decide +kernel) fun K hK => ?_; simp [*]) | (with_reducible refine region_tame_a mixedO (by decide +kernel) fun K hK => ?_; simp [*, Low, isLoadB, isTameB, List.range_succ, List.range']) | (with_reducible refine cond_t ?_ ?_; (focus (simp [*]; done))) | (with_reducible refine cond_f ?_ ?_; (focus (simp [*]; done))))
        refine PCalls.mono (rLower_spec (nm k) hns _) ?_
        intro d3 H3 hd3
        rw [hd3.1, hd3.2]
        clear hd3
        try simp [*]
        try simp [*]
        repeat (first | (with_reducible first | refine seq_k fun K hK => ?_ | refine pwp_block ?_ | refine pwp_skip ?_ | refine pwp_ret ?_ | refine pwp_exit ?_ | refine then_n ?_ | refine then_r ?_ | refine then_e ?_ | refine then_g ?_ | refine inB_n ?_ | refine inB_r ?_ | refine inB_e ?_ | refine inB_o rfl ?_ | refine inB_g ?_ | refine Leads.go (by assumption) ?_) | (with_reducible refine region_k fun K hK => ?_; simp [*]) | (with_reducible refine region_drawT_k mixedO (by decide +kernel) fun K hK => ?_; simp [*]) | (with_reducible refine region_tame_a mixedO (by decide +kernel) fun K hK => ?_; simp [*, Low, isLoadB, isTameB, List.range_succ, List.range']) | (with_reducible refine cond_t ?_ ?_; (focus (simp [*]; done))) | (with_reducible refine cond_f ?_ ?_; (focus (simp [*]; done))))
        have hf : fcls s = k := fcls_of h (by simp [hit, h1]) eP
        rw [hf]
        simp [*]
        try rfl
      · by_cases h2 : s = od k
        · subst h2
          repeat (first | (with_reducible first | refine seq_k fun K hK => ?_ | refine pwp_block ?_ | refine pwp_skip ?_ | refine pwp_ret ?_ | refine pwp_exit ?_ | refine then_n ?_ | refine then_r ?_ | refine then_e ?_ | refine then_g ?_ | refine inB_n ?_ | refine inB_r ?_ | refine inB_e ?_ | refine inB_o rfl ?_ | refine inB_g ?_ | refine Leads.go (by assumption) ?_) | (with_reducible refine region_k fun K hK => ?_; simp [*]) | (with_reducible refine region_drawT_k mixedO (by decide +kernel) fun K hK => ?_; simp [*]) | (with_reducible refine region_tame_a mixedO (by decide +kernel) fun K hK => ?_; simp [*, Low, isLoadB, isTameB, List.range_succ, List.range']) | (with_reducible refine cond_t ?_ ?_; (focus (simp [*]; done))) | (with_reducible refine cond_f ?_ ?_; (focus (simp [*]; done))))
          refine PCalls.mono (rLower_spec (nm k) hns _) ?_
          intro d3 H3 hd3
          rw [hd3.1, hd3.2]
          clear hd3
          try simp [*]
          try simp [*]
          repeat (first | (with_reducible first | refine seq_k fun K hK => ?_ | refine pwp_block ?_ | refine pwp_skip ?_ | refine pwp_ret ?_ | refine pwp_exit ?_ | refine then_n ?_ | refine then_r ?_ | refine then_e ?_ | refine then_g ?_ | refine inB_n ?_ | refine inB_r ?_ | refine inB_e ?_ | refine inB_o rfl ?_ | refine inB_g ?_ | refine Leads.go (by assumption) ?_) | (with_reducible refine region_k fun K hK => ?_; simp [*]) | (with_reducible refine region_drawT_k mixedO (by decide +kernel) fun K hK => ?_; simp [*]) | (with_reducible refine region_tame_a mixedO (by decide +kernel) fun K hK => ?_; simp [*, Low, isLoadB, isTameB, List.range_succ, List.range']) | (with_reducible refine cond_t ?_ ?_; (focus (simp [*]; done))) | (with_reducible refine cond_f ?_ ?_; (focus (simp [*]; done))))
          have hf : fcls (od k) = k := fcls_of h (by simp [hit]) eP
          rw [hf]
          simp [*]
          try rfl
        · repeat (first | (with_reducible first | refine seq_k fun K hK => ?_ | refine pwp_block ?_ | refine pwp_skip ?_ | refine pwp_ret ?_ | refine pwp_exit ?_ | refine then_n ?_ | refine then_r ?_ | refine then_e ?_ | refine then_g ?_ | refine inB_n ?_ | refine inB_r ?_ | refine inB_e ?_ | refine inB_o rfl ?_ | refine inB_g ?_ | refine Leads.go (by assumption) ?_) | (with_reducible refine region_k fun K hK => ?_; simp [*]) | (with_reducible refine region_drawT_k mixedO (by decide +kernel) fun K hK => ?_; simp [*]) | (with_reducible refine region_tame_a mixedO (by decide +kernel) fun K hK => ?_; simp [*, Low, isLoadB, isTameB, List.range_succ, List.range']) | (with_reducible refine cond_t ?_ ?_; (focus (simp [*]; done))) | (with_reducible refine cond_f ?_ ?_; (focus (simp [*]; done))))
          refine PCalls.mono (rLower_spec (nm k) hns _) ?_
          intro d3 H3 hd3
          rw [hd3.1, hd3.2]
          clear hd3
          try simp [*]
          try simp [*]
          repeat (first | (with_reducible first | refine seq_k fun K hK => ?_ | refine pwp_block ?_ | refine pwp_skip ?_ | refine pwp_ret ?_ | refine pwp_exit ?_ | refine then_n ?_ | refine then_r ?_ | refine then_e ?_ | refine then_g ?_ | refine inB_n ?_ | refine inB_r ?_ | refine inB_e ?_ | refine inB_o rfl ?_ | refine inB_g ?_ | refine Leads.go (by assumption) ?_) | (with_reducible refine region_k fun K hK => ?_; simp [*]) | (with_reducible refine region_drawT_k mixedO (by decide +kernel) fun K hK => ?_; simp [*]) | (with_reducible refine region_tame_a mixedO (by decide +kernel) fun K hK => ?_; simp [*, Low, isLoadB, isTameB, List.range_succ, List.range']) | (with_reducible refine cond_t ?_ ?_; (focus (simp [*]; done))) | (with_reducible refine cond_f ?_ ?_; (focus (simp [*]; done))))
          refine ⟨10 - (k + 1), by omega, k + 1, by omega, rfl, ?_⟩
          simp [*]
          intro j hj
          rcases Nat.lt_or_ge j k with q | q
          · exact eP j q
          · have : j = k := by omega
            subst this
            simp [hit, h1, h2]
    · have hks : k = 10 := by omega
      subst hks
      generalize (List.range 10).map clD = L at *
      repeat (first | (with_reducible first | refine seq_k fun K hK => ?_ | refine pwp_block ?_ | refine pwp_skip ?_ | refine pwp_ret ?_ | refine pwp_exit ?_ | refine then_n ?_ | refine then_r ?_ | refine then_e ?_ | refine then_g ?_ | refine inB_n ?_ | refine inB_r ?_ | refine inB_e ?_ | refine inB_o rfl ?_ | refine inB_g ?_ | refine Leads.go (by assumption) ?_) | (with_reducible refine region_k fun K hK => ?_; simp [*]) | (with_reducible refine region_drawT_k mixedO (by decide +kernel) fun K hK => ?_; simp [*]) | (with_reducible refine region_tame_a mixedO (by decide +kernel) fun K hK => ?_; simp [*, Low, isLoadB, isTameB, List.range_succ, List.range']) | (with_reducible refine cond_t ?_ ?_; (focus (simp [*]; done))) | (with_reducible refine cond_f ?_ ?_; (focus (simp [*]; done))))
      rw [fcls_none eP]
      simp [*]
      try rfl
set_option maxRecDepth 100000 in
theorem rFindClass_spec (s : By) (hs : s.length ≤ 100000) (H : Heap) : PCalls Tryz.prog 35 [sD s] H fun d H' => d = .tup [clD (fcls s), .val (.bool (decide (fcls s < 10)))] ∧ H' = H :=
  PCalls.liftG (rFindClass_local s hs) (fun d hd => by simp only [List.mem_cons, List.mem_nil_iff, or_false] at hd; subst hd; exact .val _)
    (.tup _ fun d hd => by simp only [List.mem_cons, List.mem_nil_iff, or_false] at hd; rcases hd with rfl | rfl; exact pure_cl _; exact .val _) H
end Go.Pv
