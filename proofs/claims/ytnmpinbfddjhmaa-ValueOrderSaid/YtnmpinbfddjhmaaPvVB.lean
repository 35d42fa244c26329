/- A part of the proof: functions of the program, walked, or what operations come to. -/
import Derived.Test.YtnmpinbfddjhmaaPvV2
import Derived.Test.YtnmpinbfddjhmaaPvF3
-- ZpvTameA ZpvDrawT
namespace Go.Pv
open Go.Proofs
attribute [-simp] eLen UInt8.ofNat_add

/-! ### Numbers of sixteen digits -/
set_option maxRecDepth 100000 in
theorem fdigit_spec (c : UInt8) (H : Heap) : PCalls Try.prog 106 [.val (.int .u8 (c.toNat : Nat))] H fun d H' => d = .tup [.val (.int .u64 (((hexM c).getD 0 : Nat) : Int)), .val (.bool (hexM c).isSome)] ∧ H' = H := by
  have key : ((List.range 256).all fun n => match runFz Try.prog 60 106 [.val (.int .u8 (n : Nat))] with | some (.tup [.val (.int .u64 a), .val (.bool b)]) => decide (a = (((hexM (UInt8.ofNat n)).getD 0 : Nat) : Int)) && (b == (hexM (UInt8.ofNat n)).isSome) | _ => false) = true := by kernel_rfl
  have hc := List.all_eq_true.1 key c.toNat (List.mem_range.2 c.toNat_lt)
  split at hc
  · rename_i a b e
    have hg : UInt8.ofNat c.toNat = c := by simp
    rw [hg] at hc
    simp only [Bool.and_eq_true, decide_eq_true_eq, beq_iff_eq] at hc
    rw [hc.1, hc.2] at e
    exact PCalls.liftG (runFz_spec mixedO e) (fun d hd => by simp at hd; subst hd; exact .val _) (.tup _ fun d hd => by simp at hd; rcases hd with rfl | rfl <;> exact .val _) H
  · cases hc
set_option maxRecDepth 100000 in
theorem frombits_spec (n : Nat) (H : Heap) : PCalls Try.prog 107 [.val (.int .u64 (n : Nat))] H fun d H' => d = .val (.float .f64 n) ∧ H' = H :=
  (prOf_sound (x := (107, .frombits)) ⟨_, Try.func107, by kernel_rfl, by kernel_rfl, by kernel_rfl, by kernel_rfl⟩ rfl).mono fun d H' h => ⟨by rw [h.1]; simp, h.2⟩
set_option maxRecDepth 100000 in
theorem fbits_spec (n : Nat) (H : Heap) : PCalls Try.prog 108 [.val (.float .f64 n)] H fun d H' => d = .val (.int .u64 (n : Nat)) ∧ H' = H :=
  (prOf_sound (x := (108, .bits)) ⟨_, Try.func108, by kernel_rfl, by kernel_rfl, by kernel_rfl, by kernel_rfl⟩ rfl).mono fun d H' h => ⟨h.1, h.2⟩
def fltD (o : Option Nat) : D := .tup [.val (.float .f64 (o.getD 0)), .val (.bool o.isSome)]
theorem hexAll_succ (l : By) (k : Nat) (c : UInt8) (h : l[k]? = some c) : hexAll (l.take (k + 1)) = (hexAll (l.take k) && (hexM c).isSome) := by
  unfold hexAll; rw [List.take_add_one, h]; simp
theorem hexAll_not (l : By) (k : Nat) (c : UInt8) (h : l[k]? = some c) (hp : hexM c = none) : hexAll l = false := by
  cases hq : hexAll l with
  | false => rfl
  | true => have := List.all_eq_true.1 hq c (List.mem_of_getElem? h); rw [hp] at this; cases this
set_option maxHeartbeats 4000000 in
set_option maxRecDepth 100000 in
theorem fParse_spec (l : By) (H : Heap) : PCalls Try.prog 103 [sD l] H fun d H' => d = fltD (parseM l) ∧ H' = H := by
  refine PCalls.of_pwp Try.call103 Try.func103 rfl (by simp [Try.ntmps103]) ?_
  rw [Try.ntmps103]
  by_cases h16 : l.length = 16
  · have h16i : (l.length : Int) = 16 := by omega
    repeat (first | with_reducible refine seq_k fun K hK => ?_ | (with_reducible refine region_k fun K hK => ?_; simp [*]) | (with_reducible refine region_drawT_k mixedO (by decide +kernel) fun K hK => ?_; simp [*]) | (with_reducible refine region_tame_a mixedO (by decide +kernel) fun K hK => ?_; simp [*, Low, isLoadB, isTameB, List.range_succ, List.range']) | with_reducible refine pwp_block ?_ | with_reducible refine pwp_skip ?_ | with_reducible refine pwp_ret ?_ | with_reducible refine pwp_exit ?_ | (with_reducible refine cond_t ?_ ?_; (focus (simp [*]; done))) | (with_reducible refine cond_f ?_ ?_; (focus (simp [*]; done))) | with_reducible refine then_n ?_ | with_reducible refine then_r ?_ | with_reducible refine then_e ?_ | with_reducible refine then_g ?_ | with_reducible refine inB_n ?_ | with_reducible refine inB_r ?_ | with_reducible refine inB_e ?_ | with_reducible refine inB_o rfl ?_ | with_reducible refine inB_g ?_ | with_reducible refine Leads.go (by assumption) ?_)
    refine pwp_for (16) (fun k st => st.env.n = 30 ∧ st.df = [] ∧ st.H = H ∧ st.env.get 0 = sD l ∧ st.env.get 4 = .val (.int .u64 ((hexV (l.take k) : Nat) : Int)) ∧ st.env.get 11 = .val (.int .i64 k) ∧ (Hold (hexAll (l.take k) = true))) ⟨by first | (simp; done) | (simp [*]; done), rfl, by first | rfl | simp, by first | (simp; done) | (simp [*]; done), by first | (simp; done) | (simp [*]; done), by first | (simp; done) | (simp [*]; done), by first | done | exact ⟨by simp⟩ | simp⟩ ?_ ?_
    · rintro k ⟨E, Hx, df⟩ hk ⟨en, edf, eH, e0, e4, e11, eP⟩
      simp only at en edf eH e0 e4 e11
      subst edf; replace eH := eH.symm; subst eH
      have hki : (k : Int) < ((16 : Nat) : Int) := by omega
      have hkw := wrapSucc k (by omega)
      obtain ⟨c, hc⟩ : ∃ c, l[k]? = some c := ⟨_, List.getElem?_eq_getElem (by omega)⟩
      have bc : byteAt l k = (c.toNat : Int) := byteAt_of hc
      have lc := toNat_lt c
      have hs := hexAll_succ l k c hc
      rw [eP.out, Bool.true_and] at hs
      have hv := hexV_take l k c hc
      have hlt := hexV_lt (l.take k)
      have hl15 : (l.take k).length ≤ 15 := by simp; omega
      have hlt2 : hexV (l.take k) < 16 ^ 15 := Nat.lt_of_lt_of_le hlt (Nat.pow_le_pow_right (by decide) hl15)
      obtain ⟨v, hve⟩ : ∃ v, hexV (l.take k) = v := ⟨_, rfl⟩
      rw [hve] at hv hlt2 e4
      have k1 : (k : Int) < 16 := by omega
      have k2 : (k : Int) < (l.length : Int) := by omega
      have hkl : k < l.length := by omega
      cases hd : hexM c with
      | none =>
        have hp : parseM l = none := by rw [parseM, if_neg]; rw [hexAll_not l k c hc hd]; simp
        clear hs hve
        repeat (first | with_reducible refine seq_k fun K hK => ?_ | (with_reducible refine region_k fun K hK => ?_; simp [*]) | (with_reducible refine region_drawT_k mixedO (by decide +kernel) fun K hK => ?_; simp [*]) | (with_reducible refine region_tame_a mixedO (by decide +kernel) fun K hK => ?_; simp [*, Low, isLoadB, isTameB, List.range_succ, List.range']) | with_reducible refine pwp_block ?_ | with_reducible refine pwp_skip ?_ | with_reducible refine pwp_ret ?_ | with_reducible refine pwp_exit ?_ | (with_reducible refine cond_t ?_ ?_; (focus (simp [*]; done))) | (with_reducible refine cond_f ?_ ?_; (focus (simp [*]; done))) | with_reducible refine then_n ?_ | with_reducible refine then_r ?_ | with_reducible refine then_e ?_ | with_reducible refine then_g ?_ | with_reducible refine inB_n ?_ | with_reducible refine inB_r ?_ | with_reducible refine inB_e ?_ | with_reducible refine inB_o rfl ?_ | with_reducible refine inB_g ?_ | with_reducible refine Leads.go (by assumption) ?_)
        refine PCalls.mono (fdigit_spec c _) ?_
        intro d3 H3 hd3
        rw [hd3.1, hd3.2]
        clear hd3
        try simp [*]
        try simp [*]
        repeat (first | with_reducible refine seq_k fun K hK => ?_ | (with_reducible refine region_k fun K hK => ?_; simp [*]) | (with_reducible refine region_drawT_k mixedO (by decide +kernel) fun K hK => ?_; simp [*]) | (with_reducible refine region_tame_a mixedO (by decide +kernel) fun K hK => ?_; simp [*, Low, isLoadB, isTameB, List.range_succ, List.range']) | with_reducible refine pwp_block ?_ | with_reducible refine pwp_skip ?_ | with_reducible refine pwp_ret ?_ | with_reducible refine pwp_exit ?_ | (with_reducible refine cond_t ?_ ?_; (focus (simp [*]; done))) | (with_reducible refine cond_f ?_ ?_; (focus (simp [*]; done))) | with_reducible refine then_n ?_ | with_reducible refine then_r ?_ | with_reducible refine then_e ?_ | with_reducible refine then_g ?_ | with_reducible refine inB_n ?_ | with_reducible refine inB_r ?_ | with_reducible refine inB_e ?_ | with_reducible refine inB_o rfl ?_ | with_reducible refine inB_g ?_ | with_reducible refine Leads.go (by assumption) ?_)
        simp [*, fltD]
      | some n =>
        have hn := hexM_lt hd
        rw [hd] at hs hv
        simp only [Option.getD_some, Option.isSome_some] at hs hv
        have hor := nib_or v n (by omega) hn
        have hs' := Hold.mk hs
        clear hs hve
        repeat (first | with_reducible refine seq_k fun K hK => ?_ | (with_reducible refine region_k fun K hK => ?_; simp [*]) | (with_reducible refine region_drawT_k mixedO (by decide +kernel) fun K hK => ?_; simp [*]) | (with_reducible refine region_tame_a mixedO (by decide +kernel) fun K hK => ?_; simp [*, Low, isLoadB, isTameB, List.range_succ, List.range']) | with_reducible refine pwp_block ?_ | with_reducible refine pwp_skip ?_ | with_reducible refine pwp_ret ?_ | with_reducible refine pwp_exit ?_ | (with_reducible refine cond_t ?_ ?_; (focus (simp [*]; done))) | (with_reducible refine cond_f ?_ ?_; (focus (simp [*]; done))) | with_reducible refine then_n ?_ | with_reducible refine then_r ?_ | with_reducible refine then_e ?_ | with_reducible refine then_g ?_ | with_reducible refine inB_n ?_ | with_reducible refine inB_r ?_ | with_reducible refine inB_e ?_ | with_reducible refine inB_o rfl ?_ | with_reducible refine inB_g ?_ | with_reducible refine Leads.go (by assumption) ?_)
        refine PCalls.mono (fdigit_spec c _) ?_
        intro d3 H3 hd3
        rw [hd3.1, hd3.2]
        clear hd3
        try simp [*]
        try simp [*]
        repeat (first | with_reducible refine seq_k fun K hK => ?_ | (with_reducible refine region_k fun K hK => ?_; simp [*]) | (with_reducible refine region_drawT_k mixedO (by decide +kernel) fun K hK => ?_; simp [*]) | (with_reducible refine region_tame_a mixedO (by decide +kernel) fun K hK => ?_; simp [*, Low, isLoadB, isTameB, List.range_succ, List.range']) | with_reducible refine pwp_block ?_ | with_reducible refine pwp_skip ?_ | with_reducible refine pwp_ret ?_ | with_reducible refine pwp_exit ?_ | (with_reducible refine cond_t ?_ ?_; (focus (simp [*]; done))) | (with_reducible refine cond_f ?_ ?_; (focus (simp [*]; done))) | with_reducible refine then_n ?_ | with_reducible refine then_r ?_ | with_reducible refine then_e ?_ | with_reducible refine then_g ?_ | with_reducible refine inB_n ?_ | with_reducible refine inB_r ?_ | with_reducible refine inB_e ?_ | with_reducible refine inB_o rfl ?_ | with_reducible refine inB_g ?_ | with_reducible refine Leads.go (by assumption) ?_)
        simp [*]
        first
        | done
        | exact ⟨by simpa using hs'.out⟩
    · rintro ⟨E, Hx, df⟩ ⟨en, edf, eH, e0, e4, e11, eP⟩
      simp only at en edf eH e0 e4 e11
      subst edf; replace eH := eH.symm; subst eH
      have h5 := eP.out
      have ht : l.take 16 = l := List.take_of_length_le (by omega)
      rw [ht] at h5 e4
      have hp : parseM l = some (hexV l) := by rw [parseM, if_pos ⟨h16, h5⟩]
      clear h5 ht eP
      repeat (first | with_reducible refine seq_k fun K hK => ?_ | (with_reducible refine region_k fun K hK => ?_; simp [*]) | (with_reducible refine region_drawT_k mixedO (by decide +kernel) fun K hK => ?_; simp [*]) | (with_reducible refine region_tame_a mixedO (by decide +kernel) fun K hK => ?_; simp [*, Low, isLoadB, isTameB, List.range_succ, List.range']) | with_reducible refine pwp_block ?_ | with_reducible refine pwp_skip ?_ | with_reducible refine pwp_ret ?_ | with_reducible refine pwp_exit ?_ | (with_reducible refine cond_t ?_ ?_; (focus (simp [*]; done))) | (with_reducible refine cond_f ?_ ?_; (focus (simp [*]; done))) | with_reducible refine then_n ?_ | with_reducible refine then_r ?_ | with_reducible refine then_e ?_ | with_reducible refine then_g ?_ | with_reducible refine inB_n ?_ | with_reducible refine inB_r ?_ | with_reducible refine inB_e ?_ | with_reducible refine inB_o rfl ?_ | with_reducible refine inB_g ?_ | with_reducible refine Leads.go (by assumption) ?_)
      refine PCalls.mono (frombits_spec (hexV l) _) ?_
      intro d3 H3 hd3
      rw [hd3.1, hd3.2]
      clear hd3
      try simp [*]
      repeat (first | with_reducible refine seq_k fun K hK => ?_ | (with_reducible refine region_k fun K hK => ?_; simp [*]) | (with_reducible refine region_drawT_k mixedO (by decide +kernel) fun K hK => ?_; simp [*]) | (with_reducible refine region_tame_a mixedO (by decide +kernel) fun K hK => ?_; simp [*, Low, isLoadB, isTameB, List.range_succ, List.range']) | with_reducible refine pwp_block ?_ | with_reducible refine pwp_skip ?_ | with_reducible refine pwp_ret ?_ | with_reducible refine pwp_exit ?_ | (with_reducible refine cond_t ?_ ?_; (focus (simp [*]; done))) | (with_reducible refine cond_f ?_ ?_; (focus (simp [*]; done))) | with_reducible refine then_n ?_ | with_reducible refine then_r ?_ | with_reducible refine then_e ?_ | with_reducible refine then_g ?_ | with_reducible refine inB_n ?_ | with_reducible refine inB_r ?_ | with_reducible refine inB_e ?_ | with_reducible refine inB_o rfl ?_ | with_reducible refine inB_g ?_ | with_reducible refine Leads.go (by assumption) ?_)
      simp [*, fltD]
  · have h16i : ¬ (l.length : Int) = 16 := by omega
    have hp : parseM l = none := by rw [parseM, if_neg]; simp [h16]
    repeat (first | with_reducible refine seq_k fun K hK => ?_ | (with_reducible refine region_k fun K hK => ?_; simp [*]) | (with_reducible refine region_drawT_k mixedO (by decide +kernel) fun K hK => ?_; simp [*]) | (with_reducible refine region_tame_a mixedO (by decide +kernel) fun K hK => ?_; simp [*, Low, isLoadB, isTameB, List.range_succ, List.range']) | with_reducible refine pwp_block ?_ | with_reducible refine pwp_skip ?_ | with_reducible refine pwp_ret ?_ | with_reducible refine pwp_exit ?_ | (with_reducible refine cond_t ?_ ?_; (focus (simp [*]; done))) | (with_reducible refine cond_f ?_ ?_; (focus (simp [*]; done))) | with_reducible refine then_n ?_ | with_reducible refine then_r ?_ | with_reducible refine then_e ?_ | with_reducible refine then_g ?_ | with_reducible refine inB_n ?_ | with_reducible refine inB_r ?_ | with_reducible refine inB_e ?_ | with_reducible refine inB_o rfl ?_ | with_reducible refine inB_g ?_ | with_reducible refine Leads.go (by assumption) ?_)
    simp [*, fltD]
end Go.Pv
