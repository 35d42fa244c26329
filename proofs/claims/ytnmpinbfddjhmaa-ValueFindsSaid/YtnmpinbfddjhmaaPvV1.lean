/- A part of the proof: functions of the program, walked, or what operations come to. -/
import Derived.Test.YtnmpinbfddjhmaaPvOF
import Derived.Test.YtnmpinbfddjhmaaPvF1
import Derived.Test.YtnmpinbfddjhmaaPvN1
import Derived.Test.YtnmpinbfddjhmaaPvN2
-- ZpvTameA ZpvDrawT
namespace Go.Pv
open Go.Proofs
attribute [-simp] eLen UInt8.ofNat_add

attribute [simp] sD
/-! ### Characters -/
/-- A function of a byte, at each. -/
theorem of_bytesV {P : Program} (hm : P.follows .mixedOrders = true) {f : FuncId} {g : UInt8 → List Value} (h : ((List.range 256).all fun n => match runFz P 60 f [.val (.int .u8 (n : Nat))] with | some (.tup l) => decide (l.map (fun d => match d with | .val (.int k n) => some (k, n) | _ => none) = (g (UInt8.ofNat n)).map (fun v => match v with | .int k n => some (k, n) | _ => none)) && l.all (fun d => match d with | .val (.int _ _) => true | _ => false) && (g (UInt8.ofNat n)).all (fun v => match v with | .int _ _ => true | _ => false) | _ => false) = true) (c : UInt8) (H : Heap) :
    PCalls P f [.val (.int .u8 (c.toNat : Nat))] H fun d H' => d = .tup ((g c).map .val) ∧ H' = H := by
  have hc := List.all_eq_true.1 h c.toNat (List.mem_range.2 c.toNat_lt)
  split at hc
  · rename_i l e
    simp only [Bool.and_eq_true, decide_eq_true_eq, List.all_eq_true] at hc
    obtain ⟨⟨h1, h2⟩, h3⟩ := hc
    have hb : l = (g c).map .val := by
      have hg : UInt8.ofNat c.toNat = c := by simp
      rw [hg] at h1 h3
      clear e h
      generalize g c = m at h1 h3
      induction l generalizing m with
      | nil => cases m with
        | nil => rfl
        | cons => simp at h1
      | cons d l ih => cases m with
        | nil => simp at h1
        | cons v m =>
          simp only [List.map_cons, List.cons.injEq] at h1
          have hd := h2 d (by simp)
          have hv := h3 v (by simp)
          have ht := ih (fun x hx => h2 x (by simp [hx])) m h1.2 (fun x hx => h3 x (by simp [hx]))
          rw [ht, List.map_cons]
          congr 1
          have h0 := h1.1
          split at hd <;> try (cases hd; done)
          split at hv <;> try (cases hv; done)
          simp at h0
          rw [h0.1, h0.2]
    rw [hb] at e
    exact PCalls.liftG (runFz_spec hm e) (fun d hd => by simp at hd; subst hd; exact .val _) (.tup _ fun d hd => by obtain ⟨v, _, rfl⟩ := List.mem_map.1 hd; exact .val v) H
  · cases hc
set_option maxRecDepth 100000 in
theorem lead_spec (c : UInt8) (H : Heap) : PCalls Try.prog 61 [.val (.int .u8 (c.toNat : Nat))] H fun d H' => d = .tup [.val (.int .i64 ((leadB c).1 : Nat)), .val (.int .u8 ((leadB c).2.1 : Nat)), .val (.int .i32 ((leadB c).2.2 : Nat))] ∧ H' = H :=
  of_bytesV (g := fun c => [.int .i64 ((leadB c).1 : Nat), .int .u8 ((leadB c).2.1 : Nat), .int .i32 ((leadB c).2.2 : Nat)]) mixedO (by kernel_rfl) c H
theorem all_take_succ (p : UInt8 → Bool) (l : By) (k : Nat) (c : UInt8) (h : l[k]? = some c) : (l.take (k + 1)).all p = ((l.take k).all p && p c) := by
  rw [List.take_add_one, h]; simp
def nextD (o : Option (Nat × Nat)) : D := .tup [.val (.int .i32 (((o.getD (0, 0)).1 : Nat) : Int)), .val (.int .i64 (((o.getD (0, 0)).2 : Nat) : Int))]
set_option maxHeartbeats 4000000 in
set_option maxRecDepth 100000 in
theorem Next_spec (l : By) (hl : l.length ≤ 100000) (H : Heap) : PCalls Try.prog 55 [sD l] H fun d H' => d = nextD (nextM l) ∧ H' = H := by
  refine PCalls.of_pwp Try.call55 Try.func55 rfl (by simp [Try.ntmps55]) ?_
  rw [Try.ntmps55]
  rcases l with _ | ⟨c, t⟩
  · repeat (first | (with_reducible first | refine seq_k fun K hK => ?_ | refine pwp_block ?_ | refine pwp_skip ?_ | refine pwp_ret ?_ | refine pwp_exit ?_ | refine then_n ?_ | refine then_r ?_ | refine then_e ?_ | refine then_g ?_ | refine inB_n ?_ | refine inB_r ?_ | refine inB_e ?_ | refine inB_o rfl ?_ | refine inB_g ?_ | refine Leads.go (by assumption) ?_) | (with_reducible refine region_k fun K hK => ?_; simp [*]) | (with_reducible refine region_drawT_k mixedO (by decide +kernel) fun K hK => ?_; simp [*]) | (with_reducible refine region_tame_a mixedO (by decide +kernel) fun K hK => ?_; simp [*, Low, isLoadB, isTameB, List.range_succ, List.range']) | (with_reducible refine cond_t ?_ ?_; (focus (simp [*]; done))) | (with_reducible refine cond_f ?_ ?_; (focus (simp [*]; done))))
    simp [nextD, nextM]
  · have bc : byteAt (c :: t) 0 = (c.toNat : Int) := byteAt_of rfl
    repeat (first | (with_reducible first | refine seq_k fun K hK => ?_ | refine pwp_block ?_ | refine pwp_skip ?_ | refine pwp_ret ?_ | refine pwp_exit ?_ | refine then_n ?_ | refine then_r ?_ | refine then_e ?_ | refine then_g ?_ | refine inB_n ?_ | refine inB_r ?_ | refine inB_e ?_ | refine inB_o rfl ?_ | refine inB_g ?_ | refine Leads.go (by assumption) ?_) | (with_reducible refine region_k fun K hK => ?_; simp [*]) | (with_reducible refine region_drawT_k mixedO (by decide +kernel) fun K hK => ?_; simp [*]) | (with_reducible refine region_tame_a mixedO (by decide +kernel) fun K hK => ?_; simp [*, Low, isLoadB, isTameB, List.range_succ, List.range']) | (with_reducible refine cond_t ?_ ?_; (focus (simp [*]; done))) | (with_reducible refine cond_f ?_ ?_; (focus (simp [*]; done))))
    refine PCalls.mono (lead_spec c _) ?_
    intro d3 H3 hd3
    rw [hd3.1, hd3.2]
    clear hd3
    try simp [*]
    have hn4 := leadB_le c
    have hb7 := leadB_bits c
    obtain ⟨q, hq⟩ : ∃ q, leadB c = q := ⟨_, rfl⟩
    obtain ⟨n, b, least⟩ := q
    rw [hq] at hn4 hb7
    have hNx : nextM (c :: t) = if n = 0 ∨ t.length + 1 < n then none
      else if (t.take (n - 1)).all cont = false then none
      else if badC (accum b (t.take (n - 1))) least then none
      else some (accum b (t.take (n - 1)), n) := by rw [nextM, hq]
    simp only at hn4 hb7
    rw [hq]
    simp only
    by_cases h1 : n = 0
    · have h1' : (n : Int) = 0 := by omega
      try simp [*]
      repeat (first | (with_reducible first | refine seq_k fun K hK => ?_ | refine pwp_block ?_ | refine pwp_skip ?_ | refine pwp_ret ?_ | refine pwp_exit ?_ | refine then_n ?_ | refine then_r ?_ | refine then_e ?_ | refine then_g ?_ | refine inB_n ?_ | refine inB_r ?_ | refine inB_e ?_ | refine inB_o rfl ?_ | refine inB_g ?_ | refine Leads.go (by assumption) ?_) | (with_reducible refine region_k fun K hK => ?_; simp [*]) | (with_reducible refine region_drawT_k mixedO (by decide +kernel) fun K hK => ?_; simp [*]) | (with_reducible refine region_tame_a mixedO (by decide +kernel) fun K hK => ?_; simp [*, Low, isLoadB, isTameB, List.range_succ, List.range']) | (with_reducible refine cond_t ?_ ?_; (focus (simp [*]; done))) | (with_reducible refine cond_f ?_ ?_; (focus (simp [*]; done))))
      simp [*, nextD]
    · have h1' : ¬ (n : Int) = 0 := by omega
      by_cases h2 : t.length + 1 < n
      · have h2' : (t.length : Int) + 1 < (n : Int) := by omega
        try simp [*]
        repeat (first | (with_reducible first | refine seq_k fun K hK => ?_ | refine pwp_block ?_ | refine pwp_skip ?_ | refine pwp_ret ?_ | refine pwp_exit ?_ | refine then_n ?_ | refine then_r ?_ | refine then_e ?_ | refine then_g ?_ | refine inB_n ?_ | refine inB_r ?_ | refine inB_e ?_ | refine inB_o rfl ?_ | refine inB_g ?_ | refine Leads.go (by assumption) ?_) | (with_reducible refine region_k fun K hK => ?_; simp [*]) | (with_reducible refine region_drawT_k mixedO (by decide +kernel) fun K hK => ?_; simp [*]) | (with_reducible refine region_tame_a mixedO (by decide +kernel) fun K hK => ?_; simp [*, Low, isLoadB, isTameB, List.range_succ, List.range']) | (with_reducible refine cond_t ?_ ?_; (focus (simp [*]; done))) | (with_reducible refine cond_f ?_ ?_; (focus (simp [*]; done))))
        simp [*, nextD]
      · have h2' : ¬ (t.length : Int) + 1 < (n : Int) := by omega
        rw [if_neg (by omega)] at hNx
        have w0 := wrapR (b : Int) (by omega) (by omega)
        try simp [*]
        repeat (first | (with_reducible first | refine seq_k fun K hK => ?_ | refine pwp_block ?_ | refine pwp_skip ?_ | refine pwp_ret ?_ | refine pwp_exit ?_ | refine then_n ?_ | refine then_r ?_ | refine then_e ?_ | refine then_g ?_ | refine inB_n ?_ | refine inB_r ?_ | refine inB_e ?_ | refine inB_o rfl ?_ | refine inB_g ?_ | refine Leads.go (by assumption) ?_) | (with_reducible refine region_k fun K hK => ?_; simp [*]) | (with_reducible refine region_drawT_k mixedO (by decide +kernel) fun K hK => ?_; simp [*]) | (with_reducible refine region_tame_a mixedO (by decide +kernel) fun K hK => ?_; simp [*, Low, isLoadB, isTameB, List.range_succ, List.range']) | (with_reducible refine cond_t ?_ ?_; (focus (simp [*]; done))) | (with_reducible refine cond_f ?_ ?_; (focus (simp [*]; done))))
        have hfin : ∀ k, k ≤ n - 1 → accum b (t.take k) < 33554432 := fun k hk => accum_small b _ hb7 (by simp; omega)
        refine pwp_for ((n - 1)) (fun k st => st.env.n = 63 ∧ st.df = [] ∧ st.H = H ∧ st.env.get 0 = sD (c :: t) ∧ st.env.get 4 = .val (.int .i64 (n : Nat)) ∧ st.env.get 6 = .val (.int .i32 (least : Nat)) ∧ st.env.get 7 = .val (.int .i32 ((accum b (t.take k) : Nat) : Int)) ∧ st.env.get 8 = .val (.int .i64 ((k : Int) + 1)) ∧ (Hold ((t.take k).all cont = true))) ⟨by first | (simp; done) | (simp [*]; done), rfl, by first | rfl | simp, by first | (simp; done) | (simp [*]; done), by first | (simp; done) | (simp [*]; done), by first | (simp; done) | (simp [*]; done), by first | (simp; done) | (simp [*]; done), by first | (simp; done) | (simp [*]; done), by first | done | exact ⟨by simp⟩ | simp⟩ ?_ ?_
        · rintro k ⟨E, Hx, df⟩ hk ⟨en, edf, eH, e0, e4, e6, e7, e8, eP⟩
          simp only at en edf eH e0 e4 e6 e7 e8
          subst edf; replace eH := eH.symm; subst eH
          have hki : (k : Int) < (((n - 1) : Nat) : Int) := by omega
          have hkw := wrapSucc k (by omega)
          obtain ⟨x, hx⟩ : ∃ x, t[k]? = some x := ⟨_, List.getElem?_eq_getElem (by omega)⟩
          have hlt : (k : Int) + 1 < (n : Int) := by omega
          have hk2 : (k : Int) < (t.length : Int) := by omega
          have hk3 : 0 ≤ (k : Int) + 1 := by omega
          have bx : byteAt (c :: t) (k + 1) = (x.toNat : Int) := byteAt_of (by simpa using hx)
          have hs := all_take_succ cont t k x hx
          have ha := accum_take b t k x hx
          have hf := hfin k (by omega)
          have hf1 := hfin (k + 1) (by omega)
          rw [eP.out, Bool.true_and] at hs
          obtain ⟨v, hv⟩ : ∃ v, accum b (t.take k) = v := ⟨_, rfl⟩
          rw [hv] at ha hf e7
          have hsh : ((x.toNat : Int).fdiv (2 ^ min 6 IntKind.u8.bits) = 2) ↔ cont x = true := by
            rw [cont, decide_eq_true_eq, show (2 : Int) ^ min 6 IntKind.u8.bits = 64 from rfl, Int.fdiv_eq_ediv_of_nonneg _ (by decide)]; omega
          by_cases hcx : cont x = true
          · have hsh' := hsh.2 hcx
            have hor := rune_or v x hf
            have hw2 := wrapI ((k : Int) + 1 + 1) (by omega) (by omega)
            rw [hcx] at hs
            have hs' := Hold.mk hs
            clear hs hv
            repeat (first | (with_reducible first | refine seq_k fun K hK => ?_ | refine pwp_block ?_ | refine pwp_skip ?_ | refine pwp_ret ?_ | refine pwp_exit ?_ | refine then_n ?_ | refine then_r ?_ | refine then_e ?_ | refine then_g ?_ | refine inB_n ?_ | refine inB_r ?_ | refine inB_e ?_ | refine inB_o rfl ?_ | refine inB_g ?_ | refine Leads.go (by assumption) ?_) | (with_reducible refine region_k fun K hK => ?_; simp [*]) | (with_reducible refine region_drawT_k mixedO (by decide +kernel) fun K hK => ?_; simp [*]) | (with_reducible refine region_tame_a mixedO (by decide +kernel) fun K hK => ?_; simp [*, Low, isLoadB, isTameB, List.range_succ, List.range']) | (with_reducible refine cond_t ?_ ?_; (focus (simp [*]; done))) | (with_reducible refine cond_f ?_ ?_; (focus (simp [*]; done))))
            simp [*]
            exact ⟨by simpa using hs'.out⟩
          · have hsh' : ¬ (x.toNat : Int).fdiv (2 ^ min 6 IntKind.u8.bits) = 2 := fun q => hcx (hsh.1 q)
            have hcx' : cont x = false := by simpa using hcx
            have h5 : (t.take (n - 1)).all cont = false := by
              cases hq : (t.take (n - 1)).all cont with
              | false => rfl
              | true => have := List.all_eq_true.1 hq x (List.mem_of_getElem? (by rw [List.getElem?_take_of_lt (by omega)]; exact hx)); rw [hcx'] at this; cases this
            rw [if_pos h5] at hNx
            repeat (first | (with_reducible first | refine seq_k fun K hK => ?_ | refine pwp_block ?_ | refine pwp_skip ?_ | refine pwp_ret ?_ | refine pwp_exit ?_ | refine then_n ?_ | refine then_r ?_ | refine then_e ?_ | refine then_g ?_ | refine inB_n ?_ | refine inB_r ?_ | refine inB_e ?_ | refine inB_o rfl ?_ | refine inB_g ?_ | refine Leads.go (by assumption) ?_) | (with_reducible refine region_k fun K hK => ?_; simp [*]) | (with_reducible refine region_drawT_k mixedO (by decide +kernel) fun K hK => ?_; simp [*]) | (with_reducible refine region_tame_a mixedO (by decide +kernel) fun K hK => ?_; simp [*, Low, isLoadB, isTameB, List.range_succ, List.range']) | (with_reducible refine cond_t ?_ ?_; (focus (simp [*]; done))) | (with_reducible refine cond_f ?_ ?_; (focus (simp [*]; done))))
            simp [*, nextD]
        · rintro ⟨E, Hx, df⟩ ⟨en, edf, eH, e0, e4, e6, e7, e8, eP⟩
          simp only at en edf eH e0 e4 e6 e7 e8
          subst edf; replace eH := eH.symm; subst eH
          have h5 := eP.out
          have h6 : ¬ (t.take (n - 1)).all cont = false := by rw [h5]; simp
          rw [if_neg h6] at hNx
          have hlt : ¬ ((n - 1 : Nat) : Int) + 1 < (n : Int) := by omega
          have hf := hfin (n - 1) (Nat.le_refl _)
          obtain ⟨v, hv⟩ : ∃ v, accum b (t.take (n - 1)) = v := ⟨_, rfl⟩
          rw [hv] at hNx e7 hf
          clear h5 h6 hv eP hfin
          by_cases g1 : (v : Int) < (least : Int)
          · have hb : badC v least = true := by simp [badC]; omega
            rw [if_pos hb] at hNx
            repeat (first | (with_reducible first | refine seq_k fun K hK => ?_ | refine pwp_block ?_ | refine pwp_skip ?_ | refine pwp_ret ?_ | refine pwp_exit ?_ | refine then_n ?_ | refine then_r ?_ | refine then_e ?_ | refine then_g ?_ | refine inB_n ?_ | refine inB_r ?_ | refine inB_e ?_ | refine inB_o rfl ?_ | refine inB_g ?_ | refine Leads.go (by assumption) ?_) | (with_reducible refine region_k fun K hK => ?_; simp [*]) | (with_reducible refine region_drawT_k mixedO (by decide +kernel) fun K hK => ?_; simp [*]) | (with_reducible refine region_tame_a mixedO (by decide +kernel) fun K hK => ?_; simp [*, Low, isLoadB, isTameB, List.range_succ, List.range']) | (with_reducible refine cond_t ?_ ?_; (focus (simp [*]; done))) | (with_reducible refine cond_f ?_ ?_; (focus (simp [*]; done))))
            simp [*, nextD]
          · by_cases g2 : 1114111 < (v : Int)
            · have hb : badC v least = true := by simp [badC]; omega
              rw [if_pos hb] at hNx
              repeat (first | (with_reducible first | refine seq_k fun K hK => ?_ | refine pwp_block ?_ | refine pwp_skip ?_ | refine pwp_ret ?_ | refine pwp_exit ?_ | refine then_n ?_ | refine then_r ?_ | refine then_e ?_ | refine then_g ?_ | refine inB_n ?_ | refine inB_r ?_ | refine inB_e ?_ | refine inB_o rfl ?_ | refine inB_g ?_ | refine Leads.go (by assumption) ?_) | (with_reducible refine region_k fun K hK => ?_; simp [*]) | (with_reducible refine region_drawT_k mixedO (by decide +kernel) fun K hK => ?_; simp [*]) | (with_reducible refine region_tame_a mixedO (by decide +kernel) fun K hK => ?_; simp [*, Low, isLoadB, isTameB, List.range_succ, List.range']) | (with_reducible refine cond_t ?_ ?_; (focus (simp [*]; done))) | (with_reducible refine cond_f ?_ ?_; (focus (simp [*]; done))))
              simp [*, nextD]
            · by_cases g3 : 55296 ≤ (v : Int)
              · by_cases g4 : (v : Int) < 57344
                · have hb : badC v least = true := by simp [badC]; omega
                  rw [if_pos hb] at hNx
                  repeat (first | (with_reducible first | refine seq_k fun K hK => ?_ | refine pwp_block ?_ | refine pwp_skip ?_ | refine pwp_ret ?_ | refine pwp_exit ?_ | refine then_n ?_ | refine then_r ?_ | refine then_e ?_ | refine then_g ?_ | refine inB_n ?_ | refine inB_r ?_ | refine inB_e ?_ | refine inB_o rfl ?_ | refine inB_g ?_ | refine Leads.go (by assumption) ?_) | (with_reducible refine region_k fun K hK => ?_; simp [*]) | (with_reducible refine region_drawT_k mixedO (by decide +kernel) fun K hK => ?_; simp [*]) | (with_reducible refine region_tame_a mixedO (by decide +kernel) fun K hK => ?_; simp [*, Low, isLoadB, isTameB, List.range_succ, List.range']) | (with_reducible refine cond_t ?_ ?_; (focus (simp [*]; done))) | (with_reducible refine cond_f ?_ ?_; (focus (simp [*]; done))))
                  simp [*, nextD]
                · have hb : ¬ badC v least = true := by simp [badC]; omega
                  rw [if_neg hb] at hNx
                  repeat (first | (with_reducible first | refine seq_k fun K hK => ?_ | refine pwp_block ?_ | refine pwp_skip ?_ | refine pwp_ret ?_ | refine pwp_exit ?_ | refine then_n ?_ | refine then_r ?_ | refine then_e ?_ | refine then_g ?_ | refine inB_n ?_ | refine inB_r ?_ | refine inB_e ?_ | refine inB_o rfl ?_ | refine inB_g ?_ | refine Leads.go (by assumption) ?_) | (with_reducible refine region_k fun K hK => ?_; simp [*]) | (with_reducible refine region_drawT_k mixedO (by decide +kernel) fun K hK => ?_; simp [*]) | (with_reducible refine region_tame_a mixedO (by decide +kernel) fun K hK => ?_; simp [*, Low, isLoadB, isTameB, List.range_succ, List.range']) | (with_reducible refine cond_t ?_ ?_; (focus (simp [*]; done))) | (with_reducible refine cond_f ?_ ?_; (focus (simp [*]; done))))
                  simp [*, nextD]
              · have hb : ¬ badC v least = true := by simp [badC]; omega
                rw [if_neg hb] at hNx
                repeat (first | (with_reducible first | refine seq_k fun K hK => ?_ | refine pwp_block ?_ | refine pwp_skip ?_ | refine pwp_ret ?_ | refine pwp_exit ?_ | refine then_n ?_ | refine then_r ?_ | refine then_e ?_ | refine then_g ?_ | refine inB_n ?_ | refine inB_r ?_ | refine inB_e ?_ | refine inB_o rfl ?_ | refine inB_g ?_ | refine Leads.go (by assumption) ?_) | (with_reducible refine region_k fun K hK => ?_; simp [*]) | (with_reducible refine region_drawT_k mixedO (by decide +kernel) fun K hK => ?_; simp [*]) | (with_reducible refine region_tame_a mixedO (by decide +kernel) fun K hK => ?_; simp [*, Low, isLoadB, isTameB, List.range_succ, List.range']) | (with_reducible refine cond_t ?_ ?_; (focus (simp [*]; done))) | (with_reducible refine cond_f ?_ ?_; (focus (simp [*]; done))))
                simp [*, nextD]
end Go.Pv
