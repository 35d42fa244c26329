/- A part of the proof: functions of the program, walked, or what operations come to. -/
import Derived.Test.YtnmpinbfddjhmaaGreatPvR4
import Derived.Test.YtnmpinbfddjhmaaGreatPvX1
-- ZpvTameA ZpvDrawT
namespace Go.Pv
open Go.Proofs
attribute [-simp] eLen UInt8.ofNat_add



/-! ### The document's parts, and places -/
def rpieceM (s : Int) (p : By) : By := if s = 7 then delB 32 p else if s = 1 then prepM true true p else exactP p
set_option maxHeartbeats 4000000 in
set_option maxRecDepth 100000 in
theorem rpiece_spec (s : Int) (l : By) (hl : l.length ≤ 90000) (H : Heap) : PCalls Tryz.prog 23 [.val (.int .i64 s), sD l] H fun d H' => d = sD (rpieceM s l) ∧ H' = H := by
  refine PCalls.of_pwp Tryz.call23 Tryz.func23 rfl (by simp [Tryz.ntmps23]) ?_
  rw [Tryz.ntmps23]
  by_cases h7 : s = 7
  · subst h7
    have hr : rpieceM 7 l = delB 32 l := rfl
    repeat (first | (with_reducible first | refine seq_k fun K hK => ?_ | refine pwp_block ?_ | refine pwp_skip ?_ | refine pwp_ret ?_ | refine pwp_exit ?_ | refine then_n ?_ | refine then_r ?_ | refine then_e ?_ | refine then_g ?_ | refine inB_n ?_ | refine inB_r ?_ | refine inB_e ?_ | refine inB_o rfl ?_ | refine inB_g ?_ | refine Leads.go (by assumption) ?_) | (with_reducible refine region_k fun K hK => ?_; simp [*]) | (with_reducible refine region_drawT_k mixedO (by decide +kernel) fun K hK => ?_; simp [*]) | (with_reducible refine region_tame_a mixedO (by decide +kernel) fun K hK => ?_; simp [*, Low, isLoadB, isTameB, List.range_succ, List.range']) | (with_reducible refine cond_t ?_ ?_; (focus (simp [*]; done))) | (with_reducible refine cond_f ?_ ?_; (focus (simp [*]; done))))
    refine pwp_for (l.length) (fun k st => st.env.n = 46 ∧ st.df = [] ∧ st.H = H ∧ st.env.get 1 = sD l ∧ st.env.get 5 = sD (delB 32 (l.take k)) ∧ st.env.get 6 = .val (.int .i64 k)) ⟨by first | (simp; done) | (simp [*]; done), rfl, by first | rfl | simp, by first | (simp; done) | (simp [*]; done), by first | (simp; done) | (simp [*]; done), by first | (simp; done) | (simp [*]; done)⟩ ?_ ?_
    · rintro k ⟨E, Hx, df⟩ hk ⟨en, edf, eH, e1, e5, e6⟩
      simp only at en edf eH e1 e5 e6
      subst edf; replace eH := eH.symm; subst eH
      have hki : (k : Int) < ((l.length : Nat) : Int) := by omega
      have hkw := wrapSucc k (by omega)
      obtain ⟨c, hc⟩ : ∃ c, l[k]? = some c := ⟨_, List.getElem?_eq_getElem (by omega)⟩
      have bc : byteAt l k = (c.toNat : Int) := byteAt_of hc
      have lc := toNat_lt c
      have hs := delB_snoc l k c hc
      have hdl := delB_len 32 (l.take k)
      rw [List.length_take] at hdl
      obtain ⟨X, hX⟩ : ∃ X, delB 32 (l.take k) = X := ⟨_, rfl⟩
      rw [hX] at hs hdl e5
      have hkb : X.length + 1 ≤ 9223372036854775807 := by omega
      have hkc : (k : Int) ≤ (k : Int) + 1 := by omega
      have hk2 : (k : Int) + 1 ≤ (l.length : Int) := by omega
      have hsl : (l.take (k + 1)).drop k = [c] := by rw [List.take_add_one, hc, List.drop_append, List.drop_of_length_le (by rw [List.length_take]; omega), List.length_take, show k - min k l.length = 0 by omega]; rfl
      have hmin : min (k + 1) l.length - k = 1 := by omega
      by_cases h3 : (c.toNat : Int) = 32
      · have hc32 : c = 32 := UInt8.toNat_inj.1 (by simpa using (by omega : c.toNat = 32))
        rw [if_pos hc32, List.append_nil] at hs
        clear hc32
        repeat (first | (with_reducible first | refine seq_k fun K hK => ?_ | refine pwp_block ?_ | refine pwp_skip ?_ | refine pwp_ret ?_ | refine pwp_exit ?_ | refine then_n ?_ | refine then_r ?_ | refine then_e ?_ | refine then_g ?_ | refine inB_n ?_ | refine inB_r ?_ | refine inB_e ?_ | refine inB_o rfl ?_ | refine inB_g ?_ | refine Leads.go (by assumption) ?_) | (with_reducible refine region_k fun K hK => ?_; simp [*]) | (with_reducible refine region_drawT_k mixedO (by decide +kernel) fun K hK => ?_; simp [*]) | (with_reducible refine region_tame_a mixedO (by decide +kernel) fun K hK => ?_; simp [*, Low, isLoadB, isTameB, List.range_succ, List.range']) | (with_reducible refine cond_t ?_ ?_; (focus (simp [*]; done))) | (with_reducible refine cond_f ?_ ?_; (focus (simp [*]; done))))
        simp [*]
      · have hc32 : ¬ c = 32 := by intro e; subst e; simp at h3
        rw [if_neg hc32] at hs
        clear hc32
        repeat (first | (with_reducible first | refine seq_k fun K hK => ?_ | refine pwp_block ?_ | refine pwp_skip ?_ | refine pwp_ret ?_ | refine pwp_exit ?_ | refine then_n ?_ | refine then_r ?_ | refine then_e ?_ | refine then_g ?_ | refine inB_n ?_ | refine inB_r ?_ | refine inB_e ?_ | refine inB_o rfl ?_ | refine inB_g ?_ | refine Leads.go (by assumption) ?_) | (with_reducible refine region_k fun K hK => ?_; simp [*]) | (with_reducible refine region_drawT_k mixedO (by decide +kernel) fun K hK => ?_; simp [*]) | (with_reducible refine region_tame_a mixedO (by decide +kernel) fun K hK => ?_; simp [*, Low, isLoadB, isTameB, List.range_succ, List.range']) | (with_reducible refine cond_t ?_ ?_; (focus (simp [*]; done))) | (with_reducible refine cond_f ?_ ?_; (focus (simp [*]; done))))
        simp [*]
    · rintro ⟨E, Hx, df⟩ ⟨en, edf, eH, e1, e5, e6⟩
      simp only at en edf eH e1 e5 e6
      subst edf; replace eH := eH.symm; subst eH
      rw [List.take_length] at e5
      repeat (first | (with_reducible first | refine seq_k fun K hK => ?_ | refine pwp_block ?_ | refine pwp_skip ?_ | refine pwp_ret ?_ | refine pwp_exit ?_ | refine then_n ?_ | refine then_r ?_ | refine then_e ?_ | refine then_g ?_ | refine inB_n ?_ | refine inB_r ?_ | refine inB_e ?_ | refine inB_o rfl ?_ | refine inB_g ?_ | refine Leads.go (by assumption) ?_) | (with_reducible refine region_k fun K hK => ?_; simp [*]) | (with_reducible refine region_drawT_k mixedO (by decide +kernel) fun K hK => ?_; simp [*]) | (with_reducible refine region_tame_a mixedO (by decide +kernel) fun K hK => ?_; simp [*, Low, isLoadB, isTameB, List.range_succ, List.range']) | (with_reducible refine cond_t ?_ ?_; (focus (simp [*]; done))) | (with_reducible refine cond_f ?_ ?_; (focus (simp [*]; done))))
      simp [*]
  · by_cases h1 : s = 1
    · subst h1
      have hr : rpieceM 1 l = prepM true true l := rfl
      repeat (first | (with_reducible first | refine seq_k fun K hK => ?_ | refine pwp_block ?_ | refine pwp_skip ?_ | refine pwp_ret ?_ | refine pwp_exit ?_ | refine then_n ?_ | refine then_r ?_ | refine then_e ?_ | refine then_g ?_ | refine inB_n ?_ | refine inB_r ?_ | refine inB_e ?_ | refine inB_o rfl ?_ | refine inB_g ?_ | refine Leads.go (by assumption) ?_) | (with_reducible refine region_k fun K hK => ?_; simp [*]) | (with_reducible refine region_drawT_k mixedO (by decide +kernel) fun K hK => ?_; simp [*]) | (with_reducible refine region_tame_a mixedO (by decide +kernel) fun K hK => ?_; simp [*, Low, isLoadB, isTameB, List.range_succ, List.range']) | (with_reducible refine cond_t ?_ ?_; (focus (simp [*]; done))) | (with_reducible refine cond_f ?_ ?_; (focus (simp [*]; done))))
      refine PCalls.mono (rPiece_spec l (by omega) _) ?_
      intro d3 H3 hd3
      rw [hd3.1, hd3.2]
      clear hd3
      try simp [*]
      try simp [*]
      repeat (first | (with_reducible first | refine seq_k fun K hK => ?_ | refine pwp_block ?_ | refine pwp_skip ?_ | refine pwp_ret ?_ | refine pwp_exit ?_ | refine then_n ?_ | refine then_r ?_ | refine then_e ?_ | refine then_g ?_ | refine inB_n ?_ | refine inB_r ?_ | refine inB_e ?_ | refine inB_o rfl ?_ | refine inB_g ?_ | refine Leads.go (by assumption) ?_) | (with_reducible refine region_k fun K hK => ?_; simp [*]) | (with_reducible refine region_drawT_k mixedO (by decide +kernel) fun K hK => ?_; simp [*]) | (with_reducible refine region_tame_a mixedO (by decide +kernel) fun K hK => ?_; simp [*, Low, isLoadB, isTameB, List.range_succ, List.range']) | (with_reducible refine cond_t ?_ ?_; (focus (simp [*]; done))) | (with_reducible refine cond_f ?_ ?_; (focus (simp [*]; done))))
      simp [*]
    · have hr : rpieceM s l = exactP l := by unfold rpieceM; rw [if_neg h7, if_neg h1]
      have hcl := countM_lt l
      have hd : exactP l = if (chars l).isSome = true then ((mark l).take ((mark l).length - 1)).drop 1 else l := rfl
      have hm : (120 :: (l ++ [120])).length ≤ 100000 := by simp; omega
      have hE := rExact_spec (120 :: (l ++ [120])) hm
      have hmb := mark_bound l hl
      have hm2 := @mark_len l
      have hmk : prepM false false (120 :: (l ++ [120])) = mark l := rfl
      have hpp : chars l = none → prepM true true l = l := fun h => by rw [prepM, h]
      rw [hmk] at hE
      have hb1 : 1 + l.length ≤ 9223372036854775807 := by omega
      have hb2 : 1 + l.length + 1 ≤ 9223372036854775807 := by omega
      have hb3 : l.length + 1 ≤ 9223372036854775807 := by omega
      have hb4 : l.length + 1 + 1 ≤ 9223372036854775807 := by omega
      repeat (first | (with_reducible first | refine seq_k fun K hK => ?_ | refine pwp_block ?_ | refine pwp_skip ?_ | refine pwp_ret ?_ | refine pwp_exit ?_ | refine then_n ?_ | refine then_r ?_ | refine then_e ?_ | refine then_g ?_ | refine inB_n ?_ | refine inB_r ?_ | refine inB_e ?_ | refine inB_o rfl ?_ | refine inB_g ?_ | refine Leads.go (by assumption) ?_) | (with_reducible refine region_k fun K hK => ?_; simp [*]) | (with_reducible refine region_drawT_k mixedO (by decide +kernel) fun K hK => ?_; simp [*]) | (with_reducible refine region_tame_a mixedO (by decide +kernel) fun K hK => ?_; simp [*, Low, isLoadB, isTameB, List.range_succ, List.range']) | (with_reducible refine cond_t ?_ ?_; (focus (simp [*]; done))) | (with_reducible refine cond_f ?_ ?_; (focus (simp [*]; done))))
      refine PCalls.mono (rCount_spec l (by omega) _) ?_
      intro d3 H3 hd3
      rw [hd3.1, hd3.2]
      clear hd3
      try simp [*]
      cases hc : chars l with
      | none =>
        have hc2 : countM l < 0 := hcl.2 hc
        have hp2 := hpp hc
        rw [hc] at hd
        have hd2 : exactP l = l := hd
        clear hd hpp hcl
        try simp [*]
        repeat (first | (with_reducible first | refine seq_k fun K hK => ?_ | refine pwp_block ?_ | refine pwp_skip ?_ | refine pwp_ret ?_ | refine pwp_exit ?_ | refine then_n ?_ | refine then_r ?_ | refine then_e ?_ | refine then_g ?_ | refine inB_n ?_ | refine inB_r ?_ | refine inB_e ?_ | refine inB_o rfl ?_ | refine inB_g ?_ | refine Leads.go (by assumption) ?_) | (with_reducible refine region_k fun K hK => ?_; simp [*]) | (with_reducible refine region_drawT_k mixedO (by decide +kernel) fun K hK => ?_; simp [*]) | (with_reducible refine region_tame_a mixedO (by decide +kernel) fun K hK => ?_; simp [*, Low, isLoadB, isTameB, List.range_succ, List.range']) | (with_reducible refine cond_t ?_ ?_; (focus (simp [*]; done))) | (with_reducible refine cond_f ?_ ?_; (focus (simp [*]; done))))
        refine PCalls.mono (rPiece_spec l (by omega) _) ?_
        intro d3 H3 hd3
        rw [hd3.1, hd3.2]
        clear hd3
        try simp [*]
        try simp [*]
        repeat (first | (with_reducible first | refine seq_k fun K hK => ?_ | refine pwp_block ?_ | refine pwp_skip ?_ | refine pwp_ret ?_ | refine pwp_exit ?_ | refine then_n ?_ | refine then_r ?_ | refine then_e ?_ | refine then_g ?_ | refine inB_n ?_ | refine inB_r ?_ | refine inB_e ?_ | refine inB_o rfl ?_ | refine inB_g ?_ | refine Leads.go (by assumption) ?_) | (with_reducible refine region_k fun K hK => ?_; simp [*]) | (with_reducible refine region_drawT_k mixedO (by decide +kernel) fun K hK => ?_; simp [*]) | (with_reducible refine region_tame_a mixedO (by decide +kernel) fun K hK => ?_; simp [*, Low, isLoadB, isTameB, List.range_succ, List.range']) | (with_reducible refine cond_t ?_ ?_; (focus (simp [*]; done))) | (with_reducible refine cond_f ?_ ?_; (focus (simp [*]; done))))
        simp [*]
      | some cs =>
        have hc2 : ¬ countM l < 0 := fun q => by have := hcl.1 q; rw [hc] at this; cases this
        have h2 := hm2 hc
        rw [hc] at hd
        have hd2 : exactP l = ((mark l).take ((mark l).length - 1)).drop 1 := hd
        clear hd hm2 hpp hcl
        obtain ⟨M, hM⟩ : ∃ M, mark l = M := ⟨_, rfl⟩
        rw [hM] at hE hmb h2 hd2
        clear hM hmk
        have w := wrapI ((M.length : Int) - 1) (by omega) (by omega)
        have g1 : (1 : Int) ≤ (M.length : Int) - 1 := by omega
        have g2 : (M.length : Int) - 1 ≤ (M.length : Int) := by omega
        have g3 : ((M.length : Int) - 1).toNat = M.length - 1 := by omega
        simp only [sD] at hE
        try simp [*]
        repeat (first | (with_reducible first | refine seq_k fun K hK => ?_ | refine pwp_block ?_ | refine pwp_skip ?_ | refine pwp_ret ?_ | refine pwp_exit ?_ | refine then_n ?_ | refine then_r ?_ | refine then_e ?_ | refine then_g ?_ | refine inB_n ?_ | refine inB_r ?_ | refine inB_e ?_ | refine inB_o rfl ?_ | refine inB_g ?_ | refine Leads.go (by assumption) ?_) | (with_reducible refine region_k fun K hK => ?_; simp [*]) | (with_reducible refine region_drawT_k mixedO (by decide +kernel) fun K hK => ?_; simp [*]) | (with_reducible refine region_tame_a mixedO (by decide +kernel) fun K hK => ?_; simp [*, Low, isLoadB, isTameB, List.range_succ, List.range']) | (with_reducible refine cond_t ?_ ?_; (focus (simp [*]; done))) | (with_reducible refine cond_f ?_ ?_; (focus (simp [*]; done))))
        refine PCalls.mono (hE _) ?_
        intro d3 H3 hd3
        rw [hd3.1, hd3.2]
        clear hd3
        try simp [*]
        try simp [*]
        repeat (first | (with_reducible first | refine seq_k fun K hK => ?_ | refine pwp_block ?_ | refine pwp_skip ?_ | refine pwp_ret ?_ | refine pwp_exit ?_ | refine then_n ?_ | refine then_r ?_ | refine then_e ?_ | refine then_g ?_ | refine inB_n ?_ | refine inB_r ?_ | refine inB_e ?_ | refine inB_o rfl ?_ | refine inB_g ?_ | refine Leads.go (by assumption) ?_) | (with_reducible refine region_k fun K hK => ?_; simp [*]) | (with_reducible refine region_drawT_k mixedO (by decide +kernel) fun K hK => ?_; simp [*]) | (with_reducible refine region_tame_a mixedO (by decide +kernel) fun K hK => ?_; simp [*, Low, isLoadB, isTameB, List.range_succ, List.range']) | (with_reducible refine cond_t ?_ ?_; (focus (simp [*]; done))) | (with_reducible refine cond_f ?_ ?_; (focus (simp [*]; done))))
        simp [*]
def findA (k t : By) (i : Nat) : Int := if Lib.index (k.drop i) t < 0 then -1 else (i : Int) + Lib.index (k.drop i) t
theorem find_hit {k t : By} {i : Nat} (h : (k.take (i + t.length)).drop i = t) (hi : i + t.length ≤ k.length) : findA k t i = i := by
  have hp : t.isPrefixOf (k.drop i) = true := by
    rw [List.isPrefixOf_iff_prefix, List.prefix_iff_eq_take]
    rw [List.drop_take, Nat.add_sub_cancel_left] at h
    exact h.symm
  have hz : Lib.index (k.drop i) t = 0 := by
    cases hd : k.drop i with
    | nil =>
      rw [hd] at hp
      cases t with
      | nil => rfl
      | cons a t => simp at hp
    | cons b l => rw [hd] at hp; unfold Lib.index; rw [if_pos hp]
  unfold findA
  rw [hz]; simp
theorem find_step {k t : By} {i : Nat} (h : ¬ (k.take (i + t.length)).drop i = t) (hi : i < k.length) : findA k t i = findA k t (i + 1) := by
  have hp : t.isPrefixOf (k.drop i) = false := by
    rw [Bool.eq_false_iff]
    intro q
    rw [List.isPrefixOf_iff_prefix, List.prefix_iff_eq_take] at q
    apply h
    rw [List.drop_take, Nat.add_sub_cancel_left]
    exact q.symm
  unfold findA
  rw [List.drop_eq_getElem_cons hi] at hp ⊢
  have e : Lib.index (k[i] :: k.drop (i + 1)) t = if Lib.index (k.drop (i + 1)) t == -1 then -1 else Lib.index (k.drop (i + 1)) t + 1 := by
    rw [Lib.index, if_neg (by rw [hp]; decide)]
  rw [e]
  have hg := Lib.index_ge (k.drop (i + 1)) t
  by_cases q : Lib.index (k.drop (i + 1)) t = -1
  · simp [q]
  · have q' : (Lib.index (k.drop (i + 1)) t == -1) = false := by simpa using q
    rw [q']
    simp only [Bool.false_eq_true, if_false]
    rw [if_neg (by omega), if_neg (by omega)]
    omega
theorem find_end {k t : By} {i : Nat} (h : k.length < i + t.length) (hi : i ≤ k.length) : findA k t i = -1 := by
  unfold findA
  have hg := Lib.index_ge (k.drop i) t
  by_cases q : Lib.index (k.drop i) t < 0
  · rw [if_pos q]
  · have := Lib.index_room (k.drop i) t (by omega)
    rw [List.length_drop] at this
    omega
set_option maxHeartbeats 4000000 in
set_option maxRecDepth 100000 in
theorem rFind_spec (k t : By) (n : Nat) (hk : k.length ≤ 1000000) (ht : t.length ≤ 1000000) (hn : n ≤ k.length) (H : Heap) : PCalls Tryz.prog 24 [sD k, sD t, .val (.int .i64 (n : Nat))] H fun d H' => d = .val (.int .i64 (findA k t n)) ∧ H' = H := by
  refine PCalls.of_pwp Tryz.call24 Tryz.func24 rfl (by simp [Tryz.ntmps24]) ?_
  rw [Tryz.ntmps24]
  obtain ⟨ans, hans⟩ : ∃ a, findA k t n = a := ⟨_, rfl⟩
  rw [hans]
  repeat (first | (with_reducible first | refine seq_k fun K hK => ?_ | refine pwp_block ?_ | refine pwp_skip ?_ | refine pwp_ret ?_ | refine pwp_exit ?_ | refine then_n ?_ | refine then_r ?_ | refine then_e ?_ | refine then_g ?_ | refine inB_n ?_ | refine inB_r ?_ | refine inB_e ?_ | refine inB_o rfl ?_ | refine inB_g ?_ | refine Leads.go (by assumption) ?_) | (with_reducible refine region_k fun K hK => ?_; simp [*]) | (with_reducible refine region_drawT_k mixedO (by decide +kernel) fun K hK => ?_; simp [*]) | (with_reducible refine region_tame_a mixedO (by decide +kernel) fun K hK => ?_; simp [*, Low, isLoadB, isTameB, List.range_succ, List.range']) | (with_reducible refine cond_t ?_ ?_; (focus (simp [*]; done))) | (with_reducible refine cond_f ?_ ?_; (focus (simp [*]; done))))
  refine pwp_loop (fun m st => ∃ i : Nat, i ≤ k.length ∧ m = k.length - i ∧ st.env.n = 36 ∧ st.df = [] ∧ st.H = H ∧ st.env.get 0 = sD k ∧ st.env.get 1 = sD t ∧ st.env.get 7 = .val (.int .i64 i) ∧ Hold (findA k t i = ans)) (k.length - n) ⟨n, hn, rfl, by simp, by simp, by simp, by simp, by simp, by simp, ⟨hans⟩⟩ ?_
  rintro m ⟨E, Hx, df⟩ ⟨i, hi, rfl, en, edf, eH, e0, e1, e7, eP⟩
  simp only at en edf eH e0 e1 e7
  subst edf
  replace eH := eH.symm
  subst eH
  have hii : (i : Int) ≤ (k.length : Int) := by omega
  have w1 := wrapI ((k.length : Int) - (i : Int)) (by omega) (by omega)
  by_cases h1 : (t.length : Int) ≤ (k.length : Int) - (i : Int)
  · have hit : i + t.length ≤ k.length := by omega
    have w2 := wrapI ((i : Int) + (t.length : Int)) (by omega) (by omega)
    have g1 : (i : Int) + (t.length : Int) ≤ (k.length : Int) := by omega
    have g2 : ((i : Int) + (t.length : Int)).toNat = i + t.length := by omega
    have g3 : (i : Int) ≤ (i : Int) + (t.length : Int) := by omega
    by_cases hq : (k.take (i + t.length)).drop i = t
    · have hA : ans = (i : Int) := by rw [← eP.out, find_hit hq hit]
      repeat (first | (with_reducible first | refine seq_k fun K hK => ?_ | refine pwp_block ?_ | refine pwp_skip ?_ | refine pwp_ret ?_ | refine pwp_exit ?_ | refine then_n ?_ | refine then_r ?_ | refine then_e ?_ | refine then_g ?_ | refine inB_n ?_ | refine inB_r ?_ | refine inB_e ?_ | refine inB_o rfl ?_ | refine inB_g ?_ | refine Leads.go (by assumption) ?_) | (with_reducible refine region_k fun K hK => ?_; simp [*]) | (with_reducible refine region_drawT_k mixedO (by decide +kernel) fun K hK => ?_; simp [*]) | (with_reducible refine region_tame_a mixedO (by decide +kernel) fun K hK => ?_; simp [*, Low, isLoadB, isTameB, List.range_succ, List.range']) | (with_reducible refine cond_t ?_ ?_; (focus (simp [*]; done))) | (with_reducible refine cond_f ?_ ?_; (focus (simp [*]; done))))
      simp [*]
    · by_cases hik : i < k.length
      · have hs := find_step hq hik
        rw [eP.out] at hs
        have hw := wrapSucc i (by omega)
        have hs2 : Hold (findA k t (i + 1) = ans) := ⟨hs.symm⟩
        clear hs
        repeat (first | (with_reducible first | refine seq_k fun K hK => ?_ | refine pwp_block ?_ | refine pwp_skip ?_ | refine pwp_ret ?_ | refine pwp_exit ?_ | refine then_n ?_ | refine then_r ?_ | refine then_e ?_ | refine then_g ?_ | refine inB_n ?_ | refine inB_r ?_ | refine inB_e ?_ | refine inB_o rfl ?_ | refine inB_g ?_ | refine Leads.go (by assumption) ?_) | (with_reducible refine region_k fun K hK => ?_; simp [*]) | (with_reducible refine region_drawT_k mixedO (by decide +kernel) fun K hK => ?_; simp [*]) | (with_reducible refine region_tame_a mixedO (by decide +kernel) fun K hK => ?_; simp [*, Low, isLoadB, isTameB, List.range_succ, List.range']) | (with_reducible refine cond_t ?_ ?_; (focus (simp [*]; done))) | (with_reducible refine cond_f ?_ ?_; (focus (simp [*]; done))))
        refine ⟨k.length - (i + 1), by omega, i + 1, by omega, rfl, ?_⟩
        simp [*]
      · exfalso
        have hik2 : i = k.length := by omega
        have ht0 : t = [] := List.length_eq_zero_iff.1 (by omega)
        subst ht0
        apply hq
        rw [hik2]
        simp
  · have hA : ans = -1 := by rw [← eP.out, find_end (by omega) hi]
    repeat (first | (with_reducible first | refine seq_k fun K hK => ?_ | refine pwp_block ?_ | refine pwp_skip ?_ | refine pwp_ret ?_ | refine pwp_exit ?_ | refine then_n ?_ | refine then_r ?_ | refine then_e ?_ | refine then_g ?_ | refine inB_n ?_ | refine inB_r ?_ | refine inB_e ?_ | refine inB_o rfl ?_ | refine inB_g ?_ | refine Leads.go (by assumption) ?_) | (with_reducible refine region_k fun K hK => ?_; simp [*]) | (with_reducible refine region_drawT_k mixedO (by decide +kernel) fun K hK => ?_; simp [*]) | (with_reducible refine region_tame_a mixedO (by decide +kernel) fun K hK => ?_; simp [*, Low, isLoadB, isTameB, List.range_succ, List.range']) | (with_reducible refine cond_t ?_ ?_; (focus (simp [*]; done))) | (with_reducible refine cond_f ?_ ?_; (focus (simp [*]; done))))
    simp [*]
end Go.Pv
-- ZpvTameA ZpvDrawT
namespace Go.Pv
open Go.Proofs
attribute [-simp] eLen UInt8.ofNat_add



/-! ### The document's Sought -/
theorem piece_r {s : Int} (hs : s = 1 ∨ s = 2 ∨ s = 7) (p : By) : pieceM s p = (rpieceM s p, true) := by
  rcases hs with rfl | rfl | rfl <;> rfl
theorem piece_no {s : Int} (hs : ¬ (s = 1 ∨ s = 2 ∨ s = 7)) (p : By) : (pieceM s p).2 = false := by
  unfold pieceM
  rw [if_neg (fun q => hs (.inl q)), if_neg (fun q => hs (.inr (.inl q))), if_neg (fun q => hs (.inr (.inr q)))]
@[simp] theorem trimP_nil : trimP [] = [] := rfl
@[simp] theorem trimS_nil : trimS [] = [] := rfl
theorem trimP_cons (x : UInt8) (l : By) : trimP (x :: l) = if x = 32 then l else x :: l := by
  unfold trimP preB
  by_cases h : x = 32
  · simp [h]
  · simp [h]
theorem trimS_at (l : By) (c : UInt8) (h : l[l.length - 1]? = some c) : trimS l = if c = 32 then l.take (l.length - 1) else l := by
  have hl : 0 < l.length := by
    have := (List.getElem?_eq_some_iff.1 h).1
    omega
  have hd : l.drop (l.length - 1) = [c] := by
    rw [List.drop_eq_getElem_cons (by omega)]
    have h2 : l[l.length - 1] = c := get_of h _
    rw [h2, List.drop_of_length_le (by omega)]
  unfold trimS sufB
  simp only [List.length_cons, List.length_nil, Nat.zero_add, hd]
  by_cases hc : c = 32
  · simp [hc]; intro h; simp [h] at hl
  · simp [hc]
theorem suf_drop (k p : By) (n : Nat) (hn : n ≤ k.length) : sufB (k.drop n) p = decide (p.length ≤ k.length - n ∧ k.drop (k.length - p.length) = p) := by
  unfold sufB
  rw [List.length_drop]
  by_cases h : p.length ≤ k.length - n
  · rw [List.drop_drop, show n + (k.length - n - p.length) = k.length - p.length by omega]
  · simp [h]
attribute [local simp] optK
def AtR (f la : By) (g : Nat) (bs : List By) (H : Heap) : Prop := H.get 0 = some (.cells [sD f, sD la, .slice g 9 (bs.map sD)])
set_option maxHeartbeats 8000000 in
set_option maxRecDepth 100000 in
theorem rSought_local (s : Int) (v f la : By) (g : Nat) (bs : List By) (hv : v.length ≤ 90000) (hf : f.length ≤ 90000) (hla : la.length ≤ 90000) (hbs : ∀ b ∈ bs, b.length ≤ 90000) (hbl : bs.length ≤ 100000) :
    PCalls Tryz.prog 8 [.val (.int .i64 s), sD v, partsD f la g bs] (noHeap noG) fun d _ => d = twoB (soughtM s v f la bs) := by
  refine PCalls.of_pwp Tryz.call8 Tryz.func8 rfl (by simp [Tryz.ntmps8]) ?_
  rw [Tryz.ntmps8]
  unfold partsD
  have hH := rKey_spec s v (by omega)
  have hkl := @hold_len s v
  have hPf := rpiece_spec s f hf
  have hPl := rpiece_spec s la hla
  have hPb : ∀ b ∈ bs, ∀ H, PCalls Tryz.prog 23 [.val (.int .i64 s), sD b] H fun d H' => d = sD (rpieceM s b) ∧ H' = H := fun b hb => rpiece_spec s b (hbs b hb)
  have hdef : soughtM s v f la bs = (match holdM s v with
    | none => (false, false)
    | some k =>
      if (pieceM s f).2 = false then (false, false)
      else if preB k (trimP (pieceM s f).1) = false then (false, true)
      else match seekM (k.drop (trimP (pieceM s f).1).length) (bs.map fun b => (pieceM s b).1) with
        | none => (false, true)
        | some r => (sufB r (trimS (pieceM s la).1), true)) := rfl
  obtain ⟨o, ho⟩ : ∃ o, holdM s v = o := ⟨_, rfl⟩
  rw [ho] at hH hdef hkl
  obtain ⟨ans, hans⟩ : ∃ a, soughtM s v f la bs = a := ⟨_, rfl⟩
  rw [hans] at hdef ⊢
  clear hans ho
  rcases o with _ | k
  · have hA : ans = (false, false) := hdef
    clear hdef hPf hPl hPb hkl
    repeat (first | (with_reducible first | refine seq_k fun K hK => ?_ | refine pwp_block ?_ | refine pwp_skip ?_ | refine pwp_ret ?_ | refine pwp_exit ?_ | refine then_n ?_ | refine then_r ?_ | refine then_e ?_ | refine then_g ?_ | refine inB_n ?_ | refine inB_r ?_ | refine inB_e ?_ | refine inB_o rfl ?_ | refine inB_g ?_ | refine Leads.go (by assumption) ?_) | (with_reducible refine region_k fun K hK => ?_; simp [*]) | (with_reducible refine region_drawT_k mixedO (by decide +kernel) fun K hK => ?_; simp [*]) | (with_reducible refine region_tame_a mixedO (by decide +kernel) fun K hK => ?_; simp [*, Low, isLoadB, isTameB, List.range_succ, List.range']) | (with_reducible refine cond_t ?_ ?_; (focus (simp [*]; done))) | (with_reducible refine cond_f ?_ ?_; (focus (simp [*]; done))))
    refine PCalls.mono (hH _) ?_
    intro d3 H3 hd3
    rw [hd3.1, hd3.2]
    clear hd3
    try simp [*]
    simp only [rkD]
    try simp [*]
    repeat (first | (with_reducible first | refine seq_k fun K hK => ?_ | refine pwp_block ?_ | refine pwp_skip ?_ | refine pwp_ret ?_ | refine pwp_exit ?_ | refine then_n ?_ | refine then_r ?_ | refine then_e ?_ | refine then_g ?_ | refine inB_n ?_ | refine inB_r ?_ | refine inB_e ?_ | refine inB_o rfl ?_ | refine inB_g ?_ | refine Leads.go (by assumption) ?_) | (with_reducible refine region_k fun K hK => ?_; simp [*]) | (with_reducible refine region_drawT_k mixedO (by decide +kernel) fun K hK => ?_; simp [*]) | (with_reducible refine region_tame_a mixedO (by decide +kernel) fun K hK => ?_; simp [*, Low, isLoadB, isTameB, List.range_succ, List.range']) | (with_reducible refine cond_t ?_ ?_; (focus (simp [*]; done))) | (with_reducible refine cond_f ?_ ?_; (focus (simp [*]; done))))
    simp [*, twoB]
  have hk := hkl rfl
  clear hkl
  simp only at hdef
  by_cases hs : ¬ (s = 1 ∨ s = 2 ∨ s = 7)
  · rw [piece_no hs] at hdef
    have hA : ans = (false, false) := hdef
    clear hdef hPf hPl hPb
    simp only [not_or] at hs
    obtain ⟨s1, s2, s7⟩ := hs
    repeat (first | (with_reducible first | refine seq_k fun K hK => ?_ | refine pwp_block ?_ | refine pwp_skip ?_ | refine pwp_ret ?_ | refine pwp_exit ?_ | refine then_n ?_ | refine then_r ?_ | refine then_e ?_ | refine then_g ?_ | refine inB_n ?_ | refine inB_r ?_ | refine inB_e ?_ | refine inB_o rfl ?_ | refine inB_g ?_ | refine Leads.go (by assumption) ?_) | (with_reducible refine region_k fun K hK => ?_; simp [*]) | (with_reducible refine region_drawT_k mixedO (by decide +kernel) fun K hK => ?_; simp [*]) | (with_reducible refine region_tame_a mixedO (by decide +kernel) fun K hK => ?_; simp [*, Low, isLoadB, isTameB, List.range_succ, List.range']) | (with_reducible refine cond_t ?_ ?_; (focus (simp [*]; done))) | (with_reducible refine cond_f ?_ ?_; (focus (simp [*]; done))))
    refine PCalls.mono (hH _) ?_
    intro d3 H3 hd3
    rw [hd3.1, hd3.2]
    clear hd3
    try simp [*]
    simp only [rkD]
    try simp [*]
    repeat (first | (with_reducible first | refine seq_k fun K hK => ?_ | refine pwp_block ?_ | refine pwp_skip ?_ | refine pwp_ret ?_ | refine pwp_exit ?_ | refine then_n ?_ | refine then_r ?_ | refine then_e ?_ | refine then_g ?_ | refine inB_n ?_ | refine inB_r ?_ | refine inB_e ?_ | refine inB_o rfl ?_ | refine inB_g ?_ | refine Leads.go (by assumption) ?_) | (with_reducible refine region_k fun K hK => ?_; simp [*]) | (with_reducible refine region_drawT_k mixedO (by decide +kernel) fun K hK => ?_; simp [*]) | (with_reducible refine region_tame_a mixedO (by decide +kernel) fun K hK => ?_; simp [*, Low, isLoadB, isTameB, List.range_succ, List.range']) | (with_reducible refine cond_t ?_ ?_; (focus (simp [*]; done))) | (with_reducible refine cond_f ?_ ?_; (focus (simp [*]; done))))
    simp [*, twoB]
  have hs2 : s = 1 ∨ s = 2 ∨ s = 7 := Classical.not_not.1 hs
  clear hs
  have hpl := piece_len s la hla
  have hpf := piece_len s f hf
  have hpbl : ∀ b ∈ bs, (pieceM s b).1.length ≤ 1000000 := fun b hb => piece_len s b (hbs b hb)
  have hfun : (fun b => (pieceM s b).1) = fun b => rpieceM s b := by funext b; rw [piece_r hs2]
  rw [piece_r hs2 f, piece_r hs2 la, hfun] at hdef
  rw [piece_r hs2 f] at hpf
  rw [piece_r hs2 la] at hpl
  have hpbl2 : ∀ b ∈ bs, (rpieceM s b).length ≤ 1000000 := fun b hb => by have := hpbl b hb; rw [piece_r hs2 b] at this; exact this
  simp only [Bool.true_eq_false, if_false] at hdef
  simp only at hpf hpl
  clear hpbl hfun hbs
  obtain ⟨pf, hpfe⟩ : ∃ k, rpieceM s f = k := ⟨_, rfl⟩
  obtain ⟨pl, hple⟩ : ∃ k, rpieceM s la = k := ⟨_, rfl⟩
  rw [hpfe] at hPf hdef hpf
  rw [hple] at hPl hdef hpl
  clear hpfe hple
  have hps : (bs.map fun b => rpieceM s b).length = bs.length := by simp
  have hPs : ∀ j b, bs[j]? = some b → ∃ pb, (bs.map fun b => rpieceM s b)[j]? = some pb ∧ pb.length ≤ 1000000 ∧ ∀ H, PCalls Tryz.prog 23 [.val (.int .i64 s), sD b] H fun d H' => d = sD pb ∧ H' = H := fun j b hb =>
    ⟨rpieceM s b, by rw [List.getElem?_map, hb]; rfl, hpbl2 b (List.mem_of_getElem? hb), hPb b (List.mem_of_getElem? hb)⟩
  obtain ⟨ps, hpse⟩ : ∃ ps, (bs.map fun b => rpieceM s b) = ps := ⟨_, rfl⟩
  rw [hpse] at hdef hps hPs
  clear hpse hPb hpbl2
  have hKd := Hold.mk hdef
  have hKb := Hold.mk hPs
  clear hdef hPs
  have byPf : ∀ x l, byteAt (x :: l : By) 0 = ((x : UInt8).toNat : Int) := fun x l => byteAt_of rfl
  rcases hs2 with rfl | rfl | rfl
  all_goals
    repeat (first | (with_reducible first | refine seq_k fun K hK => ?_ | refine pwp_block ?_ | refine pwp_skip ?_ | refine pwp_ret ?_ | refine pwp_exit ?_ | refine then_n ?_ | refine then_r ?_ | refine then_e ?_ | refine then_g ?_ | refine inB_n ?_ | refine inB_r ?_ | refine inB_e ?_ | refine inB_o rfl ?_ | refine inB_g ?_ | refine Leads.go (by assumption) ?_) | (with_reducible refine region_k fun K hK => ?_; simp [*]) | (with_reducible refine region_drawT_k mixedO (by decide +kernel) fun K hK => ?_; simp [*]) | (with_reducible refine region_tame_a mixedO (by decide +kernel) fun K hK => ?_; simp [*, Low, isLoadB, isTameB, List.range_succ, List.range']) | (with_reducible refine cond_t ?_ ?_; (focus (simp [*]; done))) | (with_reducible refine cond_f ?_ ?_; (focus (simp [*]; done))))
    refine PCalls.mono (hH _) ?_
    intro d3 H3 hd3
    rw [hd3.1, hd3.2]
    clear hd3
    try simp [*]
    simp only [rkD]
    try simp [*]
    repeat (first | (with_reducible first | refine seq_k fun K hK => ?_ | refine pwp_block ?_ | refine pwp_skip ?_ | refine pwp_ret ?_ | refine pwp_exit ?_ | refine then_n ?_ | refine then_r ?_ | refine then_e ?_ | refine then_g ?_ | refine inB_n ?_ | refine inB_r ?_ | refine inB_e ?_ | refine inB_o rfl ?_ | refine inB_g ?_ | refine Leads.go (by assumption) ?_) | (with_reducible refine region_k fun K hK => ?_; simp [*]) | (with_reducible refine region_drawT_k mixedO (by decide +kernel) fun K hK => ?_; simp [*]) | (with_reducible refine region_tame_a mixedO (by decide +kernel) fun K hK => ?_; simp [*, Low, isLoadB, isTameB, List.range_succ, List.range']) | (with_reducible refine cond_t ?_ ?_; (focus (simp [*]; done))) | (with_reducible refine cond_f ?_ ?_; (focus (simp [*]; done))))
    refine PCalls.mono (hPf _) ?_
    intro d3 H3 hd3
    rw [hd3.1, hd3.2]
    clear hd3
    try simp [*]
    try simp [*]
    repeat (first | (with_reducible first | refine seq_k fun K hK => ?_ | refine pwp_block ?_ | refine pwp_skip ?_ | refine pwp_ret ?_ | refine pwp_exit ?_ | refine then_n ?_ | refine then_r ?_ | refine then_e ?_ | refine then_g ?_ | refine inB_n ?_ | refine inB_r ?_ | refine inB_e ?_ | refine inB_o rfl ?_ | refine inB_g ?_ | refine Leads.go (by assumption) ?_) | (with_reducible refine region_k fun K hK => ?_; simp [*]) | (with_reducible refine region_drawT_k mixedO (by decide +kernel) fun K hK => ?_; simp [*]) | (with_reducible refine region_tame_a mixedO (by decide +kernel) fun K hK => ?_; simp [*, Low, isLoadB, isTameB, List.range_succ, List.range']) | (with_reducible refine cond_t ?_ ?_; (focus (simp [*]; done))) | (with_reducible refine cond_f ?_ ?_; (focus (simp [*]; done))))
    refine PCalls.mono (hPl _) ?_
    intro d3 H3 hd3
    rw [hd3.1, hd3.2]
    clear hd3
    try simp [*]
    try simp [*]
    refine Leads.go (by assumption) ?_
    refine then_n ?_
    refine cutE (fun E => E.n = 126 ∧ (∃ s : Int, E.get 0 = .val (.int .i64 s) ∧ Hold (∀ j b, bs[j]? = some b → ∃ pb, ps[j]? = some pb ∧ pb.length ≤ 1000000 ∧ ∀ H, PCalls Tryz.prog 23 [.val (.int .i64 s), sD b] H fun d H' => d = sD pb ∧ H' = H)) ∧ E.get 5 = .ptr 0 0 ∧ E.get 8 = sD k ∧ E.get 10 = sD pf ∧ E.get 11 = sD pl) ⟨by simp, ⟨_, by simp, hKb⟩, by simp, by simp, by simp, by simp⟩ ?_
    clear hH hPf hPl hKb
    rintro E ⟨en, ⟨s0, e0, hPb⟩, e5, e8, e10, e11⟩
    refine Leads.go (by assumption) ?_
    refine seq_k fun KA hA => ?_
    have keyA : ∀ E : Env, E.n = 126 → E.get 0 = .val (.int .i64 s0) → E.get 5 = .ptr 0 0 → E.get 8 = sD k → E.get 10 = sD (trimP pf) → E.get 11 = sD pl → KA ⟨E, (noHeap noG).new (.cells [sD f, sD la, .slice g 9 (bs.map sD)]), []⟩ := by
      clear en e0 e5 e8 e10 e11 E
      intro E en e0 e5 e8 e10 e11
      have hqf : (trimP pf).length ≤ pf.length := by unfold trimP; split <;> simp
      obtain ⟨q, hq⟩ : ∃ q, trimP pf = q := ⟨_, rfl⟩
      have hd := hKd.out
      rw [hq] at hd e10 hqf
      clear hKd hq
      have hKd := Hold.mk hd
      clear hd
      refine hA _ ?_
      clear hA
      refine seq_k fun KB hB => ?_
      have keyB : ∀ E : Env, E.n = 126 → E.get 0 = .val (.int .i64 s0) → E.get 5 = .ptr 0 0 → E.get 8 = sD k → E.get 10 = sD q → E.get 11 = sD (trimS pl) → KB ⟨E, (noHeap noG).new (.cells [sD f, sD la, .slice g 9 (bs.map sD)]), []⟩ := by
        clear en e0 e5 e8 e10 e11 E
        intro E en e0 e5 e8 e10 e11
        have htl : (trimS pl).length ≤ pl.length := by unfold trimS; split <;> simp
        obtain ⟨u, hu⟩ : ∃ q, trimS pl = q := ⟨_, rfl⟩
        have hd := hKd.out
        rw [hu] at hd e11 htl
        clear hKd hu
        have hml : (bs.map sD).length = bs.length := by simp
        have hq2 : q.length ≤ 1000000 := by omega
        have hu2 : u.length ≤ 1000000 := by omega
        have hpd : preB k q = decide (k.take q.length = q) := rfl
        refine hB _ ?_
        clear hB hqf htl
        by_cases c1 : (k.length : Int) < (q.length : Int)
        · have hp : preB k q = false := by
            rw [hpd]
            apply decide_eq_false
            intro e
            have := congrArg List.length e
            rw [List.length_take] at this
            omega
          rw [hp] at hd
          have hA : ans = (false, true) := hd
          clear hd hp hpd
          repeat (first | (with_reducible first | refine seq_k fun K hK => ?_ | refine pwp_block ?_ | refine pwp_skip ?_ | refine pwp_ret ?_ | refine pwp_exit ?_ | refine then_n ?_ | refine then_r ?_ | refine then_e ?_ | refine then_g ?_ | refine inB_n ?_ | refine inB_r ?_ | refine inB_e ?_ | refine inB_o rfl ?_ | refine inB_g ?_ | refine Leads.go (by assumption) ?_) | (with_reducible refine region_k fun K hK => ?_; simp [*]) | (with_reducible refine region_drawT_k mixedO (by decide +kernel) fun K hK => ?_; simp [*]) | (with_reducible refine region_tame_a mixedO (by decide +kernel) fun K hK => ?_; simp [*, Low, isLoadB, isTameB, List.range_succ, List.range']) | (with_reducible refine cond_t ?_ ?_; (focus (simp [*]; done))) | (with_reducible refine cond_f ?_ ?_; (focus (simp [*]; done))))
          simp [*, twoB]
        have c2 : (q.length : Int) ≤ (k.length : Int) := by omega
        by_cases c3 : k.take q.length = q
        · have hp : preB k q = true := by rw [hpd]; exact decide_eq_true c3
          rw [hp] at hd
          simp only [Bool.true_eq_false, if_false] at hd
          clear hp hpd
          have hKe := Hold.mk hd
          clear hd
          have hz0 : q.length ≤ k.length := by omega
          repeat (first | (with_reducible first | refine seq_k fun K hK => ?_ | refine pwp_block ?_ | refine pwp_skip ?_ | refine pwp_ret ?_ | refine pwp_exit ?_ | refine then_n ?_ | refine then_r ?_ | refine then_e ?_ | refine then_g ?_ | refine inB_n ?_ | refine inB_r ?_ | refine inB_e ?_ | refine inB_o rfl ?_ | refine inB_g ?_ | refine Leads.go (by assumption) ?_) | (with_reducible refine region_k fun K hK => ?_; simp [*]) | (with_reducible refine region_drawT_k mixedO (by decide +kernel) fun K hK => ?_; simp [*]) | (with_reducible refine region_tame_a mixedO (by decide +kernel) fun K hK => ?_; simp [*, Low, isLoadB, isTameB, List.range_succ, List.range']) | (with_reducible refine cond_t ?_ ?_; (focus (simp [*]; done))) | (with_reducible refine cond_f ?_ ?_; (focus (simp [*]; done))))
          refine pwp_for (bs.length) (fun j st => st.env.n = 126 ∧ st.df = [] ∧ st.env.get 0 = .val (.int .i64 s0) ∧ st.env.get 5 = .ptr 0 0 ∧ st.env.get 8 = sD k ∧ st.env.get 11 = sD u ∧ st.env.get 13 = .val (.int .i64 (j : Nat)) ∧ (AtR f la g bs st.H ∧ ∃ n : Nat, st.env.get 12 = .val (.int .i64 n) ∧ n ≤ k.length ∧ Hold (seekM (k.drop q.length) ps = seekM (k.drop n) (ps.drop j)))) ⟨by first | (simp; done) | (simp [*]; done), rfl, by first | (simp; done) | (simp [*]; done), by first | (simp; done) | (simp [*]; done), by first | (simp; done) | (simp [*]; done), by first | (simp; done) | (simp [*]; done), by first | (simp; done) | (simp [*]; done), ?_⟩ ?_ ?_
          · exact ⟨by unfold AtR; simp, q.length, by simp [*], hz0, ⟨rfl⟩⟩
          · rintro j ⟨E, Hx, df⟩ hj ⟨en, edf, e0, e5, e8, e11, e13, eP⟩
            simp only at en edf e0 e5 e8 e11 e13
            subst edf
            have hji : (j : Int) < ((bs.length : Nat) : Int) := by omega
            have hjw := wrapSucc j (by omega)
            obtain ⟨eH, n, e12, hn, hsk⟩ := eP
            have kA := Hold.mk eH
            unfold AtR at eH
            simp only at e12 eH
            obtain ⟨b, hb⟩ : ∃ b, bs[j]? = some b := ⟨_, List.getElem?_eq_getElem hj⟩
            have hpm : (bs.map sD)[j]? = some (sD b) := by rw [List.getElem?_map, hb]; rfl
            have hgl := get_of hpm
            obtain ⟨pb, hpj, hpbl, hP⟩ := hPb.out j b hb
            have hsk2 := hsk.out
            have hjl : j < ps.length := by omega
            have hge : ps[j] = pb := by have h := hpj; rw [List.getElem?_eq_getElem hjl] at h; exact Option.some.inj h
            rw [List.drop_eq_getElem_cons hjl, hge] at hsk2
            have hstep : seekM (k.drop n) (pb :: ps.drop (j + 1)) = if Lib.index (k.drop n) pb < 0 then none else seekM ((k.drop n).drop ((Lib.index (k.drop n) pb).toNat + pb.length)) (ps.drop (j + 1)) := rfl
            rw [hstep] at hsk2
            have hir := Lib.index_room (k.drop n) pb
            have hfd : findA k pb n = if Lib.index (k.drop n) pb < 0 then -1 else (n : Int) + Lib.index (k.drop n) pb := rfl
            have hF := rFind_spec k pb n (by omega) hpbl hn
            clear hb hpj hge hstep hsk hps
            rw [List.length_drop] at hir
            generalize hB : bs.map sD = B at *
            have hBl : B.length = bs.length := by rw [← hB]; simp
            clear hB
            obtain ⟨i, hi⟩ : ∃ i, Lib.index (k.drop n) pb = i := ⟨_, rfl⟩
            rw [hi] at hsk2 hir hfd
            clear hi
            by_cases hneg : i < 0
            · rw [if_pos hneg] at hsk2 hfd
              have hA : ans = (false, true) := by rw [hKe.out, hsk2]
              rw [hfd] at hF
              clear hsk2 hfd
              repeat (first | (with_reducible first | refine seq_k fun K hK => ?_ | refine pwp_block ?_ | refine pwp_skip ?_ | refine pwp_ret ?_ | refine pwp_exit ?_ | refine then_n ?_ | refine then_r ?_ | refine then_e ?_ | refine then_g ?_ | refine inB_n ?_ | refine inB_r ?_ | refine inB_e ?_ | refine inB_o rfl ?_ | refine inB_g ?_ | refine Leads.go (by assumption) ?_) | (with_reducible refine region_k fun K hK => ?_; simp [*]) | (with_reducible refine region_drawT_k mixedO (by decide +kernel) fun K hK => ?_; simp [*]) | (with_reducible refine region_tame_a mixedO (by decide +kernel) fun K hK => ?_; simp [*, Low, isLoadB, isTameB, List.range_succ, List.range']) | (with_reducible refine cond_t ?_ ?_; (focus (simp [*]; done))) | (with_reducible refine cond_f ?_ ?_; (focus (simp [*]; done))))
              refine PCalls.mono (hP _) ?_
              intro d3 H3 hd3
              rw [hd3.1, hd3.2]
              clear hd3
              try simp [*]
              try simp [*]
              repeat (first | (with_reducible first | refine seq_k fun K hK => ?_ | refine pwp_block ?_ | refine pwp_skip ?_ | refine pwp_ret ?_ | refine pwp_exit ?_ | refine then_n ?_ | refine then_r ?_ | refine then_e ?_ | refine then_g ?_ | refine inB_n ?_ | refine inB_r ?_ | refine inB_e ?_ | refine inB_o rfl ?_ | refine inB_g ?_ | refine Leads.go (by assumption) ?_) | (with_reducible refine region_k fun K hK => ?_; simp [*]) | (with_reducible refine region_drawT_k mixedO (by decide +kernel) fun K hK => ?_; simp [*]) | (with_reducible refine region_tame_a mixedO (by decide +kernel) fun K hK => ?_; simp [*, Low, isLoadB, isTameB, List.range_succ, List.range']) | (with_reducible refine cond_t ?_ ?_; (focus (simp [*]; done))) | (with_reducible refine cond_f ?_ ?_; (focus (simp [*]; done))))
              refine PCalls.mono (hF _) ?_
              intro d3 H3 hd3
              rw [hd3.1, hd3.2]
              clear hd3
              try simp [*]
              try simp [*]
              repeat (first | (with_reducible first | refine seq_k fun K hK => ?_ | refine pwp_block ?_ | refine pwp_skip ?_ | refine pwp_ret ?_ | refine pwp_exit ?_ | refine then_n ?_ | refine then_r ?_ | refine then_e ?_ | refine then_g ?_ | refine inB_n ?_ | refine inB_r ?_ | refine inB_e ?_ | refine inB_o rfl ?_ | refine inB_g ?_ | refine Leads.go (by assumption) ?_) | (with_reducible refine region_k fun K hK => ?_; simp [*]) | (with_reducible refine region_drawT_k mixedO (by decide +kernel) fun K hK => ?_; simp [*]) | (with_reducible refine region_tame_a mixedO (by decide +kernel) fun K hK => ?_; simp [*, Low, isLoadB, isTameB, List.range_succ, List.range']) | (with_reducible refine cond_t ?_ ?_; (focus (simp [*]; done))) | (with_reducible refine cond_f ?_ ?_; (focus (simp [*]; done))))
              simp [*, twoB]
            · rw [if_neg hneg] at hsk2 hfd
              have h0 := hir (by omega)
              obtain ⟨i0, rfl⟩ : ∃ i0 : Nat, i = (i0 : Int) := ⟨i.toNat, by omega⟩
              have hfd2 : findA k pb n = ((n + i0 : Nat) : Int) := by rw [hfd]; omega
              rw [hfd2] at hF
              have hdd : (k.drop n).drop ((i0 : Int).toNat + pb.length) = k.drop (n + i0 + pb.length) := by rw [List.drop_drop]; congr 1; omega
              rw [hdd] at hsk2
              have hsk3 : Hold (seekM (k.drop q.length) ps = seekM (k.drop (n + i0 + pb.length)) (ps.drop (j + 1))) := ⟨hsk2⟩
              have hN : n + i0 + pb.length ≤ k.length := by omega
              obtain ⟨N, hNe⟩ : ∃ N, n + i0 + pb.length = N := ⟨_, rfl⟩
              rw [hNe] at hsk3 hN
              have w : IntKind.i64.wrap (((n + i0 : Nat) : Int) + (pb.length : Int)) = (N : Int) := by rw [wrapI _ (by omega) (by omega)]; omega
              obtain ⟨M, hM⟩ : ∃ M, n + i0 = M := ⟨_, rfl⟩
              rw [hM] at hF w
              have hMn : ¬ ((M : Int) < 0) := by omega
              clear hsk2 hfd hfd2 hdd hNe hM h0 hir
              repeat (first | (with_reducible first | refine seq_k fun K hK => ?_ | refine pwp_block ?_ | refine pwp_skip ?_ | refine pwp_ret ?_ | refine pwp_exit ?_ | refine then_n ?_ | refine then_r ?_ | refine then_e ?_ | refine then_g ?_ | refine inB_n ?_ | refine inB_r ?_ | refine inB_e ?_ | refine inB_o rfl ?_ | refine inB_g ?_ | refine Leads.go (by assumption) ?_) | (with_reducible refine region_k fun K hK => ?_; simp [*]) | (with_reducible refine region_drawT_k mixedO (by decide +kernel) fun K hK => ?_; simp [*]) | (with_reducible refine region_tame_a mixedO (by decide +kernel) fun K hK => ?_; simp [*, Low, isLoadB, isTameB, List.range_succ, List.range']) | (with_reducible refine cond_t ?_ ?_; (focus (simp [*]; done))) | (with_reducible refine cond_f ?_ ?_; (focus (simp [*]; done))))
              refine PCalls.mono (hP _) ?_
              intro d3 H3 hd3
              rw [hd3.1, hd3.2]
              clear hd3
              try simp [*]
              try simp [*]
              repeat (first | (with_reducible first | refine seq_k fun K hK => ?_ | refine pwp_block ?_ | refine pwp_skip ?_ | refine pwp_ret ?_ | refine pwp_exit ?_ | refine then_n ?_ | refine then_r ?_ | refine then_e ?_ | refine then_g ?_ | refine inB_n ?_ | refine inB_r ?_ | refine inB_e ?_ | refine inB_o rfl ?_ | refine inB_g ?_ | refine Leads.go (by assumption) ?_) | (with_reducible refine region_k fun K hK => ?_; simp [*]) | (with_reducible refine region_drawT_k mixedO (by decide +kernel) fun K hK => ?_; simp [*]) | (with_reducible refine region_tame_a mixedO (by decide +kernel) fun K hK => ?_; simp [*, Low, isLoadB, isTameB, List.range_succ, List.range']) | (with_reducible refine cond_t ?_ ?_; (focus (simp [*]; done))) | (with_reducible refine cond_f ?_ ?_; (focus (simp [*]; done))))
              refine PCalls.mono (hF _) ?_
              intro d3 H3 hd3
              rw [hd3.1, hd3.2]
              clear hd3
              try simp [*]
              try simp [*]
              repeat (first | (with_reducible first | refine seq_k fun K hK => ?_ | refine pwp_block ?_ | refine pwp_skip ?_ | refine pwp_ret ?_ | refine pwp_exit ?_ | refine then_n ?_ | refine then_r ?_ | refine then_e ?_ | refine then_g ?_ | refine inB_n ?_ | refine inB_r ?_ | refine inB_e ?_ | refine inB_o rfl ?_ | refine inB_g ?_ | refine Leads.go (by assumption) ?_) | (with_reducible refine region_k fun K hK => ?_; simp [*]) | (with_reducible refine region_drawT_k mixedO (by decide +kernel) fun K hK => ?_; simp [*]) | (with_reducible refine region_tame_a mixedO (by decide +kernel) fun K hK => ?_; simp [*, Low, isLoadB, isTameB, List.range_succ, List.range']) | (with_reducible refine cond_t ?_ ?_; (focus (simp [*]; done))) | (with_reducible refine cond_f ?_ ?_; (focus (simp [*]; done))))
              simp [*]
              exact ⟨kA.out, N, rfl, hN, hsk3⟩
          · rintro ⟨E, Hx, df⟩ ⟨en, edf, e0, e5, e8, e11, e13, eP⟩
            simp only at en edf e0 e5 e8 e11 e13
            subst edf
            obtain ⟨eH, n, e12, hn, hsk⟩ := eP
            unfold AtR at eH
            simp only at e12 eH
            have hsk2 := hsk.out
            rw [List.drop_of_length_le (l := ps) (by omega)] at hsk2
            have hA : ans = (sufB (k.drop n) u, true) := by rw [hKe.out, hsk2]; rfl
            rw [suf_drop k u n hn] at hA
            clear hsk hsk2
            have w1 := wrapI ((k.length : Int) - (n : Int)) (by omega) (by omega)
            have w2 := wrapI ((k.length : Int) - (u.length : Int)) (by omega) (by omega)
            by_cases d1 : (u.length : Int) ≤ (k.length : Int) - (n : Int)
            · have d2 : 0 ≤ (k.length : Int) - (u.length : Int) := by omega
              have d3 : (k.length : Int) - (u.length : Int) ≤ (k.length : Int) := by omega
              have d4 : ((k.length : Int) - (u.length : Int)).toNat = k.length - u.length := by omega
              have d5 : u.length ≤ k.length - n := by omega
              have d7 : u.length ≤ k.length := by omega
              by_cases d6 : k.drop (k.length - u.length) = u
              · have hA2 : ans = (true, true) := by rw [hA, decide_eq_true ⟨d5, d6⟩]
                clear hA
                repeat (first | (with_reducible first | refine seq_k fun K hK => ?_ | refine pwp_block ?_ | refine pwp_skip ?_ | refine pwp_ret ?_ | refine pwp_exit ?_ | refine then_n ?_ | refine then_r ?_ | refine then_e ?_ | refine then_g ?_ | refine inB_n ?_ | refine inB_r ?_ | refine inB_e ?_ | refine inB_o rfl ?_ | refine inB_g ?_ | refine Leads.go (by assumption) ?_) | (with_reducible refine region_k fun K hK => ?_; simp [*]) | (with_reducible refine region_drawT_k mixedO (by decide +kernel) fun K hK => ?_; simp [*]) | (with_reducible refine region_tame_a mixedO (by decide +kernel) fun K hK => ?_; simp [*, Low, isLoadB, isTameB, List.range_succ, List.range']) | (with_reducible refine cond_t ?_ ?_; (focus (simp [*]; done))) | (with_reducible refine cond_f ?_ ?_; (focus (simp [*]; done))))
                simp [*, twoB]
              · have hA2 : ans = (false, true) := by rw [hA, decide_eq_false (fun x => d6 x.2)]
                clear hA
                repeat (first | (with_reducible first | refine seq_k fun K hK => ?_ | refine pwp_block ?_ | refine pwp_skip ?_ | refine pwp_ret ?_ | refine pwp_exit ?_ | refine then_n ?_ | refine then_r ?_ | refine then_e ?_ | refine then_g ?_ | refine inB_n ?_ | refine inB_r ?_ | refine inB_e ?_ | refine inB_o rfl ?_ | refine inB_g ?_ | refine Leads.go (by assumption) ?_) | (with_reducible refine region_k fun K hK => ?_; simp [*]) | (with_reducible refine region_drawT_k mixedO (by decide +kernel) fun K hK => ?_; simp [*]) | (with_reducible refine region_tame_a mixedO (by decide +kernel) fun K hK => ?_; simp [*, Low, isLoadB, isTameB, List.range_succ, List.range']) | (with_reducible refine cond_t ?_ ?_; (focus (simp [*]; done))) | (with_reducible refine cond_f ?_ ?_; (focus (simp [*]; done))))
                simp [*, twoB]
            · have hA2 : ans = (false, true) := by rw [hA, decide_eq_false (fun x => d1 (by have := x.1; omega))]
              clear hA
              repeat (first | (with_reducible first | refine seq_k fun K hK => ?_ | refine pwp_block ?_ | refine pwp_skip ?_ | refine pwp_ret ?_ | refine pwp_exit ?_ | refine then_n ?_ | refine then_r ?_ | refine then_e ?_ | refine then_g ?_ | refine inB_n ?_ | refine inB_r ?_ | refine inB_e ?_ | refine inB_o rfl ?_ | refine inB_g ?_ | refine Leads.go (by assumption) ?_) | (with_reducible refine region_k fun K hK => ?_; simp [*]) | (with_reducible refine region_drawT_k mixedO (by decide +kernel) fun K hK => ?_; simp [*]) | (with_reducible refine region_tame_a mixedO (by decide +kernel) fun K hK => ?_; simp [*, Low, isLoadB, isTameB, List.range_succ, List.range']) | (with_reducible refine cond_t ?_ ?_; (focus (simp [*]; done))) | (with_reducible refine cond_f ?_ ?_; (focus (simp [*]; done))))
              simp [*, twoB]
        · have hp : preB k q = false := by rw [hpd]; exact decide_eq_false c3
          rw [hp] at hd
          have hA : ans = (false, true) := hd
          clear hd hp hpd
          repeat (first | (with_reducible first | refine seq_k fun K hK => ?_ | refine pwp_block ?_ | refine pwp_skip ?_ | refine pwp_ret ?_ | refine pwp_exit ?_ | refine then_n ?_ | refine then_r ?_ | refine then_e ?_ | refine then_g ?_ | refine inB_n ?_ | refine inB_r ?_ | refine inB_e ?_ | refine inB_o rfl ?_ | refine inB_g ?_ | refine Leads.go (by assumption) ?_) | (with_reducible refine region_k fun K hK => ?_; simp [*]) | (with_reducible refine region_drawT_k mixedO (by decide +kernel) fun K hK => ?_; simp [*]) | (with_reducible refine region_tame_a mixedO (by decide +kernel) fun K hK => ?_; simp [*, Low, isLoadB, isTameB, List.range_succ, List.range']) | (with_reducible refine cond_t ?_ ?_; (focus (simp [*]; done))) | (with_reducible refine cond_f ?_ ?_; (focus (simp [*]; done))))
          simp [*, twoB]
      clear hB
      by_cases hz : pl = []
      · subst hz
        repeat (first | (with_reducible first | refine seq_k fun K hK => ?_ | refine pwp_block ?_ | refine pwp_skip ?_ | refine pwp_ret ?_ | refine pwp_exit ?_ | refine then_n ?_ | refine then_r ?_ | refine then_e ?_ | refine then_g ?_ | refine inB_n ?_ | refine inB_r ?_ | refine inB_e ?_ | refine inB_o rfl ?_ | refine inB_g ?_ | refine Leads.go (by assumption) ?_) | (with_reducible refine region_k fun K hK => ?_; simp [*]) | (with_reducible refine region_drawT_k mixedO (by decide +kernel) fun K hK => ?_; simp [*]) | (with_reducible refine region_tame_a mixedO (by decide +kernel) fun K hK => ?_; simp [*, Low, isLoadB, isTameB, List.range_succ, List.range']) | (with_reducible refine cond_t ?_ ?_; (focus (simp [*]; done))) | (with_reducible refine cond_f ?_ ?_; (focus (simp [*]; done))))
        refine keyB _ ?_ ?_ ?_ ?_ ?_ ?_ <;> simp [*]
      · have hz2 : 0 < pl.length := List.length_pos_iff.2 hz
        obtain ⟨c, hc⟩ : ∃ c, pl[pl.length - 1]? = some c := ⟨_, List.getElem?_eq_getElem (by omega)⟩
        have bc : byteAt pl (pl.length - 1) = (c.toNat : Int) := byteAt_of hc
        have lc := toNat_lt c
        have w := wrapI ((pl.length : Int) - 1) (by omega) (by omega)
        have g1 : (0 : Int) ≤ (pl.length : Int) - 1 := by omega
        have g2 : (pl.length : Int) - 1 < (pl.length : Int) := by omega
        have g3 : ((pl.length : Int) - 1).toNat = pl.length - 1 := by omega
        have g4 : (pl.length : Int) - 1 ≤ (pl.length : Int) := by omega
        have g5 : (1 : Int) ≤ (pl.length : Int) := by omega
        have hT := trimS_at pl c hc
        clear hc hz
        by_cases hx : (c.toNat : Int) = 32
        · have hx2 : c = 32 := UInt8.toNat_inj.1 (by simpa using (by omega : c.toNat = 32))
          rw [if_pos hx2] at hT
          rw [hT] at keyB
          clear hx2 hT
          repeat (first | (with_reducible first | refine seq_k fun K hK => ?_ | refine pwp_block ?_ | refine pwp_skip ?_ | refine pwp_ret ?_ | refine pwp_exit ?_ | refine then_n ?_ | refine then_r ?_ | refine then_e ?_ | refine then_g ?_ | refine inB_n ?_ | refine inB_r ?_ | refine inB_e ?_ | refine inB_o rfl ?_ | refine inB_g ?_ | refine Leads.go (by assumption) ?_) | (with_reducible refine region_k fun K hK => ?_; simp [*]) | (with_reducible refine region_drawT_k mixedO (by decide +kernel) fun K hK => ?_; simp [*]) | (with_reducible refine region_tame_a mixedO (by decide +kernel) fun K hK => ?_; simp [*, Low, isLoadB, isTameB, List.range_succ, List.range']) | (with_reducible refine cond_t ?_ ?_; (focus (simp [*]; done))) | (with_reducible refine cond_f ?_ ?_; (focus (simp [*]; done))))
          refine keyB _ ?_ ?_ ?_ ?_ ?_ ?_ <;> simp [*]
        · have hx2 : ¬ c = 32 := by intro e; subst e; simp at hx
          rw [if_neg hx2] at hT
          rw [hT] at keyB
          clear hx2 hT
          repeat (first | (with_reducible first | refine seq_k fun K hK => ?_ | refine pwp_block ?_ | refine pwp_skip ?_ | refine pwp_ret ?_ | refine pwp_exit ?_ | refine then_n ?_ | refine then_r ?_ | refine then_e ?_ | refine then_g ?_ | refine inB_n ?_ | refine inB_r ?_ | refine inB_e ?_ | refine inB_o rfl ?_ | refine inB_g ?_ | refine Leads.go (by assumption) ?_) | (with_reducible refine region_k fun K hK => ?_; simp [*]) | (with_reducible refine region_drawT_k mixedO (by decide +kernel) fun K hK => ?_; simp [*]) | (with_reducible refine region_tame_a mixedO (by decide +kernel) fun K hK => ?_; simp [*, Low, isLoadB, isTameB, List.range_succ, List.range']) | (with_reducible refine cond_t ?_ ?_; (focus (simp [*]; done))) | (with_reducible refine cond_f ?_ ?_; (focus (simp [*]; done))))
          refine keyB _ ?_ ?_ ?_ ?_ ?_ ?_ <;> simp [*]
    clear hA
    rcases pf with _ | ⟨x, pf⟩
    · repeat (first | (with_reducible first | refine seq_k fun K hK => ?_ | refine pwp_block ?_ | refine pwp_skip ?_ | refine pwp_ret ?_ | refine pwp_exit ?_ | refine then_n ?_ | refine then_r ?_ | refine then_e ?_ | refine then_g ?_ | refine inB_n ?_ | refine inB_r ?_ | refine inB_e ?_ | refine inB_o rfl ?_ | refine inB_g ?_ | refine Leads.go (by assumption) ?_) | (with_reducible refine region_k fun K hK => ?_; simp [*]) | (with_reducible refine region_drawT_k mixedO (by decide +kernel) fun K hK => ?_; simp [*]) | (with_reducible refine region_tame_a mixedO (by decide +kernel) fun K hK => ?_; simp [*, Low, isLoadB, isTameB, List.range_succ, List.range']) | (with_reducible refine cond_t ?_ ?_; (focus (simp [*]; done))) | (with_reducible refine cond_f ?_ ?_; (focus (simp [*]; done))))
      refine keyA _ ?_ ?_ ?_ ?_ ?_ ?_ <;> simp [*]
    · have bx := byPf x pf
      have p1 : (1 : Int) ≤ (pf.length : Int) + 1 := by omega
      by_cases hx : (x.toNat : Int) = 32
      · have hx2 : x = 32 := UInt8.toNat_inj.1 (by simpa using (by omega : x.toNat = 32))
        have ht : trimP (x :: pf) = pf := by rw [trimP_cons, if_pos hx2]
        rw [ht] at keyA
        clear hx2 ht byPf
        repeat (first | (with_reducible first | refine seq_k fun K hK => ?_ | refine pwp_block ?_ | refine pwp_skip ?_ | refine pwp_ret ?_ | refine pwp_exit ?_ | refine then_n ?_ | refine then_r ?_ | refine then_e ?_ | refine then_g ?_ | refine inB_n ?_ | refine inB_r ?_ | refine inB_e ?_ | refine inB_o rfl ?_ | refine inB_g ?_ | refine Leads.go (by assumption) ?_) | (with_reducible refine region_k fun K hK => ?_; simp [*]) | (with_reducible refine region_drawT_k mixedO (by decide +kernel) fun K hK => ?_; simp [*]) | (with_reducible refine region_tame_a mixedO (by decide +kernel) fun K hK => ?_; simp [*, Low, isLoadB, isTameB, List.range_succ, List.range']) | (with_reducible refine cond_t ?_ ?_; (focus (simp [*]; done))) | (with_reducible refine cond_f ?_ ?_; (focus (simp [*]; done))))
        refine keyA _ ?_ ?_ ?_ ?_ ?_ ?_ <;> simp [*]
      · have hx2 : ¬ x = 32 := by intro e; subst e; simp at hx
        have ht : trimP (x :: pf) = x :: pf := by rw [trimP_cons, if_neg hx2]
        rw [ht] at keyA
        clear hx2 ht byPf
        repeat (first | (with_reducible first | refine seq_k fun K hK => ?_ | refine pwp_block ?_ | refine pwp_skip ?_ | refine pwp_ret ?_ | refine pwp_exit ?_ | refine then_n ?_ | refine then_r ?_ | refine then_e ?_ | refine then_g ?_ | refine inB_n ?_ | refine inB_r ?_ | refine inB_e ?_ | refine inB_o rfl ?_ | refine inB_g ?_ | refine Leads.go (by assumption) ?_) | (with_reducible refine region_k fun K hK => ?_; simp [*]) | (with_reducible refine region_drawT_k mixedO (by decide +kernel) fun K hK => ?_; simp [*]) | (with_reducible refine region_tame_a mixedO (by decide +kernel) fun K hK => ?_; simp [*, Low, isLoadB, isTameB, List.range_succ, List.range']) | (with_reducible refine cond_t ?_ ?_; (focus (simp [*]; done))) | (with_reducible refine cond_f ?_ ?_; (focus (simp [*]; done))))
        refine keyA _ ?_ ?_ ?_ ?_ ?_ ?_ <;> simp [*]
set_option maxRecDepth 100000 in
theorem rSought_spec (s : Int) (v f la : By) (g : Nat) (bs : List By) (hv : v.length ≤ 90000) (hf : f.length ≤ 90000) (hla : la.length ≤ 90000) (hbs : ∀ b ∈ bs, b.length ≤ 90000) (hbl : bs.length ≤ 100000) (H : Heap) :
    PCalls Tryz.prog 8 [.val (.int .i64 s), sD v, partsD f la g bs] H fun d H' => d = twoB (soughtM s v f la bs) ∧ H' = H :=
  PCalls.liftG (rSought_local s v f la g bs hv hf hla hbs hbl) (fun d hd => by
    simp only [List.mem_cons, List.mem_nil_iff, or_false] at hd
    rcases hd with rfl | rfl | rfl
    · exact .val _
    · exact .val _
    · exact pure_parts _ _ _ _) (.tup _ fun d hd => by
    simp only [List.mem_cons, List.mem_nil_iff, or_false] at hd
    rcases hd with rfl | rfl <;> exact .val _) H
end Go.Pv
