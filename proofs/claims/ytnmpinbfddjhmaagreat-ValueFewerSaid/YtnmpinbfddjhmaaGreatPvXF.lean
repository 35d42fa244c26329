/- A part of the proof: functions of the program, walked, or what operations come to. -/
import Derived.Test.YtnmpinbfddjhmaaGreatPvX5
import Derived.Test.YtnmpinbfddjhmaaGreatPvXK
import Derived.Test.YtnmpinbfddjhmaaGreatPvP9
-- ZpvTameA ZpvDrawT
namespace Go.Pv
open Go.Proofs
attribute [-simp] eLen UInt8.ofNat_add



/-! ### The law ValueFewer, walked -/
attribute [local simp] optK
theorem is_ok {s : Int} {v f la : By} {bs : List By} (h : (soughtM s v f la bs).1 = true) : (soughtM s v f la bs).2 = true := by
  unfold soughtM at *
  split at h
  · cases h
  · split at h
    · cases h
    · rename_i h1
      rw [if_neg h1]
      split at h
      · cases h
      · rename_i h2
        rw [if_neg h2]
        split at h
        · cases h
        · rfl
set_option maxHeartbeats 8000000 in
set_option maxRecDepth 100000 in
theorem fewer_local (s : Int) (v f la : By) (g : Nat) (bs : List By) (m : Int) (hv : v.length ≤ 140737488351232) (hf : f.length ≤ 140737488351232) (hla : la.length ≤ 140737488351232) (hbs : ∀ b ∈ bs, b.length ≤ 140737488351232) (hbl : bs.length ≤ 140737488351232) :
    PCalls Tryz.prog 4 [.val (.int .i64 s), sD v, partsD f la g bs] (noHeap (maxG 0 m)) fun d _ => d = .val (.bool true) := by
  refine PCalls.of_pwp Tryz.call4 Tryz.func4 rfl (by simp [Tryz.ntmps4]) ?_
  rw [Tryz.ntmps4]
  unfold partsD
  have hfew := few_spec f la g bs hf hla hbs hbl
  have hone := Sought_spec 1 [74, 111, 104, 110, 32, 83, 109, 105, 116, 104] [106, 111] [116, 104] 0 [[83]] (by decide) (by decide) (by decide) (by decide) (by decide)
  rw [one_sought] at hone
  simp only [partsD] at hfew
  by_cases c1 : 700 < (v.length : Int)
  · clear hfew hone
    repeat (first | (with_reducible first | refine seq_k fun K hK => ?_ | refine pwp_block ?_ | refine pwp_skip ?_ | refine pwp_ret ?_ | refine pwp_exit ?_ | refine then_n ?_ | refine then_r ?_ | refine then_e ?_ | refine then_g ?_ | refine inB_n ?_ | refine inB_r ?_ | refine inB_e ?_ | refine inB_o rfl ?_ | refine inB_g ?_ | refine Leads.go (by assumption) ?_) | (with_reducible refine region_k fun K hK => ?_; simp [*]) | (with_reducible refine region_drawT_k mixedO (by decide +kernel) fun K hK => ?_; simp [*]) | (with_reducible refine region_tame_a mixedO (by decide +kernel) fun K hK => ?_; simp [*, Low, isLoadB, isTameB, List.range_succ, List.range']) | (with_reducible refine cond_t ?_ ?_; (focus (simp [*]; done))) | (with_reducible refine cond_f ?_ ?_; (focus (simp [*]; done))))
    simp [*]
  repeat (first | (with_reducible first | refine seq_k fun K hK => ?_ | refine pwp_block ?_ | refine pwp_skip ?_ | refine pwp_ret ?_ | refine pwp_exit ?_ | refine then_n ?_ | refine then_r ?_ | refine then_e ?_ | refine then_g ?_ | refine inB_n ?_ | refine inB_r ?_ | refine inB_e ?_ | refine inB_o rfl ?_ | refine inB_g ?_ | refine Leads.go (by assumption) ?_) | (with_reducible refine region_k fun K hK => ?_; simp [*]) | (with_reducible refine region_drawT_k mixedO (by decide +kernel) fun K hK => ?_; simp [*]) | (with_reducible refine region_tame_a mixedO (by decide +kernel) fun K hK => ?_; simp [*, Low, isLoadB, isTameB, List.range_succ, List.range']) | (with_reducible refine cond_t ?_ ?_; (focus (simp [*]; done))) | (with_reducible refine cond_f ?_ ?_; (focus (simp [*]; done))))
  refine PCalls.mono (hfew _) ?_
  rintro d1 H1 ⟨⟨b, rfl, hb⟩, rfl⟩
  clear hfew
  cases b with
  | false =>
    try simp [*]
    repeat (first | (with_reducible first | refine seq_k fun K hK => ?_ | refine pwp_block ?_ | refine pwp_skip ?_ | refine pwp_ret ?_ | refine pwp_exit ?_ | refine then_n ?_ | refine then_r ?_ | refine then_e ?_ | refine then_g ?_ | refine inB_n ?_ | refine inB_r ?_ | refine inB_e ?_ | refine inB_o rfl ?_ | refine inB_g ?_ | refine Leads.go (by assumption) ?_) | (with_reducible refine region_k fun K hK => ?_; simp [*]) | (with_reducible refine region_drawT_k mixedO (by decide +kernel) fun K hK => ?_; simp [*]) | (with_reducible refine region_tame_a mixedO (by decide +kernel) fun K hK => ?_; simp [*, Low, isLoadB, isTameB, List.range_succ, List.range']) | (with_reducible refine cond_t ?_ ?_; (focus (simp [*]; done))) | (with_reducible refine cond_f ?_ ?_; (focus (simp [*]; done))))
    simp [*]
  | true =>
    obtain ⟨q1, q2, q3, q4⟩ := hb rfl
    clear hb hbs
    have hS := Sought_spec s v f la g bs (by omega) (by omega) (by omega) (fun b hb => by have := q4 b hb; omega) (by omega)
    have hSa := Sought_spec s v [] la g bs (by omega) (by decide) (by omega) (fun b hb => by have := q4 b hb; omega) (by omega)
    have hSb := Sought_spec s v f [] g bs (by omega) (by omega) (by decide) (fun b hb => by have := q4 b hb; omega) (by omega)
    have hSk : ∀ k : By, k.length ≤ 512 → ∀ H, MaxIs H 0 → PCalls Tryz.prog 7 [.val (.int .i64 s), sD k, partsD f la g bs] H fun d H' => d = twoB (soughtM s k f la bs) ∧ H' = H := fun k hk => Sought_spec s k f la g bs (by omega) (by omega) (by omega) (fun b hb => by have := q4 b hb; omega) (by omega)
    have hKey := Key_spec s v (by omega)
    have kq4 := Hold.mk q4
    clear q4
    simp only [partsD, twoB] at hS hSa hSb hSk hone
    try simp [*]
    repeat (first | (with_reducible first | refine seq_k fun K hK => ?_ | refine pwp_block ?_ | refine pwp_skip ?_ | refine pwp_ret ?_ | refine pwp_exit ?_ | refine then_n ?_ | refine then_r ?_ | refine then_e ?_ | refine then_g ?_ | refine inB_n ?_ | refine inB_r ?_ | refine inB_e ?_ | refine inB_o rfl ?_ | refine inB_g ?_ | refine Leads.go (by assumption) ?_) | (with_reducible refine region_k fun K hK => ?_; simp [*]) | (with_reducible refine region_drawT_k mixedO (by decide +kernel) fun K hK => ?_; simp [*]) | (with_reducible refine region_tame_a mixedO (by decide +kernel) fun K hK => ?_; simp [*, Low, isLoadB, isTameB, List.range_succ, List.range']) | (with_reducible refine cond_t ?_ ?_; (focus (simp [*]; done))) | (with_reducible refine cond_f ?_ ?_; (focus (simp [*]; done))))
    refine PCalls.mono (PCalls.aside (k := 4) (ds' := [.val (.int .i64 1), sD [74, 111, 104, 110, 32, 83, 109, 105, 116, 104], .agg [sD [106, 111], sD [116, 104], .slice 0 9 [sD [83]]]]) (R := fun d => d = .tup [.val (.bool true), .val (.bool true)]) (by simp [mapO, fz, mapO]) ((hone _ (by exact maxG_is _ m (by simp; rfl))).mono fun d H' h => h.1) (fun d hd => by subst hd; rfl)) ?_
    rintro d3 H3 ⟨rfl, rfl⟩
    clear hone
    try simp [*]
    repeat (first | (with_reducible first | refine seq_k fun K hK => ?_ | refine pwp_block ?_ | refine pwp_skip ?_ | refine pwp_ret ?_ | refine pwp_exit ?_ | refine then_n ?_ | refine then_r ?_ | refine then_e ?_ | refine then_g ?_ | refine inB_n ?_ | refine inB_r ?_ | refine inB_e ?_ | refine inB_o rfl ?_ | refine inB_g ?_ | refine Leads.go (by assumption) ?_) | (with_reducible refine region_k fun K hK => ?_; simp [*]) | (with_reducible refine region_drawT_k mixedO (by decide +kernel) fun K hK => ?_; simp [*]) | (with_reducible refine region_tame_a mixedO (by decide +kernel) fun K hK => ?_; simp [*, Low, isLoadB, isTameB, List.range_succ, List.range']) | (with_reducible refine cond_t ?_ ?_; (focus (simp [*]; done))) | (with_reducible refine cond_f ?_ ?_; (focus (simp [*]; done))))
    have gB := @is_ok s v f la bs
    have gK := @sought_key s v f la bs
    have gO := @sought_ok s v f la bs
    have gA := @fewer_first s v f la bs
    have gL := @fewer_last s v f la bs
    have gS := @sought_same s v f la [] la bs bs
    have gS2 := @sought_same s v f la f [] bs bs
    have gKl := @hold_again s
    obtain ⟨⟨x, y⟩, hxy⟩ : ∃ x, soughtM s v f la bs = x := ⟨_, rfl⟩
    have hBt := Hold.mk hxy
    rw [hxy] at hS gB gK gO gA gL gS gS2
    simp only at hS gB gK gO gA gL gS gS2
    clear hxy
    refine PCalls.mono (hS _ (by exact maxG_is _ m (by simp; rfl))) ?_
    intro d3 H3 hd3
    rw [hd3.1, hd3.2]
    clear hd3
    try simp [*]
    try simp [*]
    repeat (first | (with_reducible first | refine seq_k fun K hK => ?_ | refine pwp_block ?_ | refine pwp_skip ?_ | refine pwp_ret ?_ | refine pwp_exit ?_ | refine then_n ?_ | refine then_r ?_ | refine then_e ?_ | refine then_g ?_ | refine inB_n ?_ | refine inB_r ?_ | refine inB_e ?_ | refine inB_o rfl ?_ | refine inB_g ?_ | refine Leads.go (by assumption) ?_) | (with_reducible refine region_k fun K hK => ?_; simp [*]) | (with_reducible refine region_drawT_k mixedO (by decide +kernel) fun K hK => ?_; simp [*]) | (with_reducible refine region_tame_a mixedO (by decide +kernel) fun K hK => ?_; simp [*, Low, isLoadB, isTameB, List.range_succ, List.range']) | (with_reducible refine cond_t ?_ ?_; (focus (simp [*]; done))) | (with_reducible refine cond_f ?_ ?_; (focus (simp [*]; done))))
    refine PCalls.mono (hKey _ (by exact maxG_is _ m (by simp; rfl))) ?_
    intro d3 H3 hd3
    rw [hd3.1, hd3.2]
    clear hd3
    try simp [*]
    cases y with
    | false =>
      cases x with
      | true => have := gB rfl; cases this
      | false =>
        try simp [*]
        repeat (first | (with_reducible first | refine seq_k fun K hK => ?_ | refine pwp_block ?_ | refine pwp_skip ?_ | refine pwp_ret ?_ | refine pwp_exit ?_ | refine then_n ?_ | refine then_r ?_ | refine then_e ?_ | refine then_g ?_ | refine inB_n ?_ | refine inB_r ?_ | refine inB_e ?_ | refine inB_o rfl ?_ | refine inB_g ?_ | refine Leads.go (by assumption) ?_) | (with_reducible refine region_k fun K hK => ?_; simp [*]) | (with_reducible refine region_drawT_k mixedO (by decide +kernel) fun K hK => ?_; simp [*]) | (with_reducible refine region_tame_a mixedO (by decide +kernel) fun K hK => ?_; simp [*, Low, isLoadB, isTameB, List.range_succ, List.range']) | (with_reducible refine cond_t ?_ ?_; (focus (simp [*]; done))) | (with_reducible refine cond_f ?_ ?_; (focus (simp [*]; done))))
        simp [*]
    | true =>
      obtain ⟨hs, k, hk⟩ := gO rfl
      have hkl := (gKl hs hk).2
      have gK2 := gK rfl
      rw [hk] at gK2
      simp only [Option.getD_some] at gK2
      have hSk2 := hSk k hkl
      rw [gK2] at hSk2
      simp only [hk, Option.getD_some, Option.isSome_some]
      clear gK gO gKl hSk gK2 gB
      try simp [*]
      repeat (first | (with_reducible first | refine seq_k fun K hK => ?_ | refine pwp_block ?_ | refine pwp_skip ?_ | refine pwp_ret ?_ | refine pwp_exit ?_ | refine then_n ?_ | refine then_r ?_ | refine then_e ?_ | refine then_g ?_ | refine inB_n ?_ | refine inB_r ?_ | refine inB_e ?_ | refine inB_o rfl ?_ | refine inB_g ?_ | refine Leads.go (by assumption) ?_) | (with_reducible refine region_k fun K hK => ?_; simp [*]) | (with_reducible refine region_drawT_k mixedO (by decide +kernel) fun K hK => ?_; simp [*]) | (with_reducible refine region_tame_a mixedO (by decide +kernel) fun K hK => ?_; simp [*, Low, isLoadB, isTameB, List.range_succ, List.range']) | (with_reducible refine cond_t ?_ ?_; (focus (simp [*]; done))) | (with_reducible refine cond_f ?_ ?_; (focus (simp [*]; done))))
      refine PCalls.mono (hSk2 _ (by exact maxG_is _ m (by simp; rfl))) ?_
      intro d3 H3 hd3
      rw [hd3.1, hd3.2]
      clear hd3
      try simp [*]
      try simp [*]
      repeat (first | (with_reducible first | refine seq_k fun K hK => ?_ | refine pwp_block ?_ | refine pwp_skip ?_ | refine pwp_ret ?_ | refine pwp_exit ?_ | refine then_n ?_ | refine then_r ?_ | refine then_e ?_ | refine then_g ?_ | refine inB_n ?_ | refine inB_r ?_ | refine inB_e ?_ | refine inB_o rfl ?_ | refine inB_g ?_ | refine Leads.go (by assumption) ?_) | (with_reducible refine region_k fun K hK => ?_; simp [*]) | (with_reducible refine region_drawT_k mixedO (by decide +kernel) fun K hK => ?_; simp [*]) | (with_reducible refine region_tame_a mixedO (by decide +kernel) fun K hK => ?_; simp [*, Low, isLoadB, isTameB, List.range_succ, List.range']) | (with_reducible refine cond_t ?_ ?_; (focus (simp [*]; done))) | (with_reducible refine cond_f ?_ ?_; (focus (simp [*]; done))))
      cases x with
      | false =>
        try simp [*]
        repeat (first | (with_reducible first | refine seq_k fun K hK => ?_ | refine pwp_block ?_ | refine pwp_skip ?_ | refine pwp_ret ?_ | refine pwp_exit ?_ | refine then_n ?_ | refine then_r ?_ | refine then_e ?_ | refine then_g ?_ | refine inB_n ?_ | refine inB_r ?_ | refine inB_e ?_ | refine inB_o rfl ?_ | refine inB_g ?_ | refine Leads.go (by assumption) ?_) | (with_reducible refine region_k fun K hK => ?_; simp [*]) | (with_reducible refine region_drawT_k mixedO (by decide +kernel) fun K hK => ?_; simp [*]) | (with_reducible refine region_tame_a mixedO (by decide +kernel) fun K hK => ?_; simp [*, Low, isLoadB, isTameB, List.range_succ, List.range']) | (with_reducible refine cond_t ?_ ?_; (focus (simp [*]; done))) | (with_reducible refine cond_f ?_ ?_; (focus (simp [*]; done))))
        simp [*]
      | true =>
        have a1 := gA rfl rfl
        have a2 := gS rfl
        have b1 := gL rfl rfl
        have b2 := gS2 rfl
        rw [a1, a2] at hSa
        rw [b1, b2] at hSb
        clear gA gL gS gS2 a1 a2 b1 b2
        try simp [*]
        repeat (first | (with_reducible first | refine seq_k fun K hK => ?_ | refine pwp_block ?_ | refine pwp_skip ?_ | refine pwp_ret ?_ | refine pwp_exit ?_ | refine then_n ?_ | refine then_r ?_ | refine then_e ?_ | refine then_g ?_ | refine inB_n ?_ | refine inB_r ?_ | refine inB_e ?_ | refine inB_o rfl ?_ | refine inB_g ?_ | refine Leads.go (by assumption) ?_) | (with_reducible refine region_k fun K hK => ?_; simp [*]) | (with_reducible refine region_drawT_k mixedO (by decide +kernel) fun K hK => ?_; simp [*]) | (with_reducible refine region_tame_a mixedO (by decide +kernel) fun K hK => ?_; simp [*, Low, isLoadB, isTameB, List.range_succ, List.range']) | (with_reducible refine cond_t ?_ ?_; (focus (simp [*]; done))) | (with_reducible refine cond_f ?_ ?_; (focus (simp [*]; done))))
        refine PCalls.mono (hSa _ (by exact maxG_is _ m (by simp; rfl))) ?_
        intro d3 H3 hd3
        rw [hd3.1, hd3.2]
        clear hd3
        try simp [*]
        try simp [*]
        repeat (first | (with_reducible first | refine seq_k fun K hK => ?_ | refine pwp_block ?_ | refine pwp_skip ?_ | refine pwp_ret ?_ | refine pwp_exit ?_ | refine then_n ?_ | refine then_r ?_ | refine then_e ?_ | refine then_g ?_ | refine inB_n ?_ | refine inB_r ?_ | refine inB_e ?_ | refine inB_o rfl ?_ | refine inB_g ?_ | refine Leads.go (by assumption) ?_) | (with_reducible refine region_k fun K hK => ?_; simp [*]) | (with_reducible refine region_drawT_k mixedO (by decide +kernel) fun K hK => ?_; simp [*]) | (with_reducible refine region_tame_a mixedO (by decide +kernel) fun K hK => ?_; simp [*, Low, isLoadB, isTameB, List.range_succ, List.range']) | (with_reducible refine cond_t ?_ ?_; (focus (simp [*]; done))) | (with_reducible refine cond_f ?_ ?_; (focus (simp [*]; done))))
        refine PCalls.mono (hSb _ (by exact maxG_is _ m (by simp; rfl))) ?_
        intro d3 H3 hd3
        rw [hd3.1, hd3.2]
        clear hd3
        try simp [*]
        by_cases hz : bs = []
        · subst hz
          try simp [*]
          repeat (first | (with_reducible first | refine seq_k fun K hK => ?_ | refine pwp_block ?_ | refine pwp_skip ?_ | refine pwp_ret ?_ | refine pwp_exit ?_ | refine then_n ?_ | refine then_r ?_ | refine then_e ?_ | refine then_g ?_ | refine inB_n ?_ | refine inB_r ?_ | refine inB_e ?_ | refine inB_o rfl ?_ | refine inB_g ?_ | refine Leads.go (by assumption) ?_) | (with_reducible refine region_k fun K hK => ?_; simp [*]) | (with_reducible refine region_drawT_k mixedO (by decide +kernel) fun K hK => ?_; simp [*]) | (with_reducible refine region_tame_a mixedO (by decide +kernel) fun K hK => ?_; simp [*, Low, isLoadB, isTameB, List.range_succ, List.range']) | (with_reducible refine cond_t ?_ ?_; (focus (simp [*]; done))) | (with_reducible refine cond_f ?_ ?_; (focus (simp [*]; done))))
          simp [*]
        · have hcc : bs = bs.dropLast ++ [bs.getLast hz] := (List.dropLast_concat_getLast hz).symm
          have hbt := hBt.out
          rw [hcc] at hbt
          have c1' := fewer_between (s := s) (v := v) (f := f) (la := la) (by rw [hbt]) (by rw [hbt])
          have c2 := sought_same (s := s) (v := v) (f := f) (la := la) (f' := f) (la' := la) (bs' := bs.dropLast) (by rw [hbt])
          have hSc := Sought_spec s v f la 0 bs.dropLast (by omega) (by omega) (by omega) (fun b hb => by rw [List.dropLast_eq_take] at hb; have := kq4.out b (List.mem_of_mem_take hb); omega) (by simp; omega)
          obtain ⟨⟨z1, z2⟩, hzz⟩ : ∃ x, soughtM s v f la bs.dropLast = x := ⟨_, rfl⟩
          rw [hzz] at c1' c2 hSc
          simp only at c1' c2
          subst c1' c2
          have hmd : (bs.map sD).take (bs.length - 1) = bs.dropLast.map sD := by rw [List.dropLast_eq_take, List.map_take]
          have hml : (bs.map sD).length = bs.length := by simp
          have hn0 : 0 < bs.length := List.length_pos_iff.2 hz
          simp only [partsD, twoB] at hSc
          clear hcc hbt hzz hBt kq4 hSa hSb hSk2
          generalize hB : bs.map sD = B at *
          generalize hB2 : bs.dropLast.map sD = B2 at *
          clear hB hB2 hS hKey hz
          obtain ⟨n, hn⟩ : ∃ n, bs.length = n := ⟨_, rfl⟩
          rw [hn] at hmd hml hn0 q3
          clear hn hbl
          have w := wrapI ((n : Int) - 1) (by omega) (by omega)
          have g1 : (0 : Int) ≤ (n : Int) - 1 := by omega
          have g2 : (n : Int) - 1 ≤ (n : Int) := by omega
          have g3 : ((n : Int) - 1).toNat = n - 1 := by omega
          have g4 : (0 : Int) < (n : Int) := by omega
          have g5 : (1 : Int) ≤ (n : Int) := by omega
          try simp [*]
          repeat (first | (with_reducible first | refine seq_k fun K hK => ?_ | refine pwp_block ?_ | refine pwp_skip ?_ | refine pwp_ret ?_ | refine pwp_exit ?_ | refine then_n ?_ | refine then_r ?_ | refine then_e ?_ | refine then_g ?_ | refine inB_n ?_ | refine inB_r ?_ | refine inB_e ?_ | refine inB_o rfl ?_ | refine inB_g ?_ | refine Leads.go (by assumption) ?_) | (with_reducible refine region_k fun K hK => ?_; simp [*]) | (with_reducible refine region_drawT_k mixedO (by decide +kernel) fun K hK => ?_; simp [*]) | (with_reducible refine region_tame_a mixedO (by decide +kernel) fun K hK => ?_; simp [*, Low, isLoadB, isTameB, List.range_succ, List.range']) | (with_reducible refine cond_t ?_ ?_; (focus (simp [*]; done))) | (with_reducible refine cond_f ?_ ?_; (focus (simp [*]; done))))
          refine PCalls.mono (hSc _ (by exact maxG_is _ m (by simp; rfl))) ?_
          intro d3 H3 hd3
          rw [hd3.1, hd3.2]
          clear hd3
          try simp [*]
          try simp [*]
          repeat (first | (with_reducible first | refine seq_k fun K hK => ?_ | refine pwp_block ?_ | refine pwp_skip ?_ | refine pwp_ret ?_ | refine pwp_exit ?_ | refine then_n ?_ | refine then_r ?_ | refine then_e ?_ | refine then_g ?_ | refine inB_n ?_ | refine inB_r ?_ | refine inB_e ?_ | refine inB_o rfl ?_ | refine inB_g ?_ | refine Leads.go (by assumption) ?_) | (with_reducible refine region_k fun K hK => ?_; simp [*]) | (with_reducible refine region_drawT_k mixedO (by decide +kernel) fun K hK => ?_; simp [*]) | (with_reducible refine region_tame_a mixedO (by decide +kernel) fun K hK => ?_; simp [*, Low, isLoadB, isTameB, List.range_succ, List.range']) | (with_reducible refine cond_t ?_ ?_; (focus (simp [*]; done))) | (with_reducible refine cond_f ?_ ?_; (focus (simp [*]; done))))
          simp [*]
set_option maxRecDepth 100000 in
theorem ValueFewer_walk (m : Int) (c0 : List D) (h0 : OkC Tryz.prog 9 3 c0) (c1 : List D) (h1 : OkC Tryz.prog 9 9 c1) (c2 : List D) (h2 : OkC Tryz.prog 9 24 c2) :
    PCalls Tryz.prog 4 [elemOf Tryz.prog 3 c0, elemOf Tryz.prog 9 c1, elemOf Tryz.prog 24 c2] (noHeap (maxG 0 m)) fun d _ => d = .val (.bool true) := by
  obtain ⟨s, rfl⟩ := int_of Tryz.underlying3 h0
  obtain ⟨v, hv, rfl⟩ := str_of Tryz.underlying9 h1
  obtain ⟨f, la, g, bs, rfl, hf, hla, hbl, hbs⟩ := parts_of h2
  have e0 : elemOf Tryz.prog 3 [.val (.int .i64 s)] = .val (.int .i64 s) := by unfold elemOf; rw [Tryz.underlying3]; rfl
  have es : elemOf Tryz.prog 9 [sD v] = sD v := by unfold elemOf; rw [Tryz.underlying9]; rfl
  have ep : elemOf Tryz.prog 24 [sD f, sD la, .slice g 9 (bs.map sD)] = partsD f la g bs := by unfold elemOf; rw [Tryz.underlying24]; rfl
  rw [e0, es, ep]
  exact fewer_local s v f la g bs m hv hf hla hbs hbl
end Go.Pv
