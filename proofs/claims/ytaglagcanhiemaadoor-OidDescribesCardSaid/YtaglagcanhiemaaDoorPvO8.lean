/- A part of the proof: functions of the program, walked, or what operations come to. -/
import Derived.Test.YtaglagcanhiemaaDoorPvO7
-- ZpvTameA ZpvDrawT
namespace Go.Pv
open Go.Proofs
attribute [-simp] eLen UInt8.ofNat_add

theorem joinB_len (c : UInt8) (b : Nat) : ∀ ps : List By, (∀ p ∈ ps, p.length ≤ b) → (joinB c ps).length ≤ ps.length * (b + 1)
  | [], _ => by simp [joinB]
  | [p], h => by have := h p (by simp); simp [joinB]; omega
  | p :: q :: ps, h => by
    have h1 := h p (by simp)
    have h2 := joinB_len c b (q :: ps) (fun x hx => h x (by simp [hx]))
    rw [joinB_cons _ _ _ (by simp), List.length_append, List.length_cons]
    simp only [List.length_cons, Nat.succ_mul, Nat.add_mul] at *
    omega
theorem arcs_len {l : By} (h : (splitB 46 l).all okP = true) (h2 : (splitB 46 l).length ≤ 16) : l.length ≤ 176 := by
  have h1 := joinB_len 46 10 (splitB 46 l) (fun p hp => (okP_read (List.all_eq_true.1 h p hp)).2.1)
  rw [join_split] at h1
  omega
set_option maxHeartbeats 4000000 in
set_option maxRecDepth 100000 in
theorem rArcs_local (l : By) (hl : l.length ≤ 100000) : PCalls Tryd.prog 27 [sD l] (noHeap noG) fun d H' => fz Tryd.prog 4 H' d = some (arcsD (arcsM l)) := by
  refine PCalls.of_pwp Tryd.call27 Tryd.func27 rfl (by simp [Tryd.ntmps27]) ?_
  rw [Tryd.ntmps27]
  have hnn : arcsM l = none → arcsD (arcsM l) = .tup [.slice 1 0 [], .val (.bool false)] := fun h => by rw [h]; rfl
  have hno := @arcs_none l
  have hlen200 := @arcs_len l
  have hps := splitB_parts 46 l
  have hdef : arcsM l = if (splitB 46 l).all okP = true then (if arcOk ((splitB 46 l).map digVal) = true then some ((splitB 46 l).map digVal) else none) else none := rfl
  obtain ⟨ps, hpe⟩ : ∃ ps, splitB 46 l = ps := ⟨_, rfl⟩
  obtain ⟨r, hr⟩ : ∃ r, arcsM l = r := ⟨_, rfl⟩
  have hSp := rparts_spec l 46 hl
  have h46 : (((46 : UInt8).toNat : Nat) : Int) = 46 := rfl
  rw [h46] at hSp
  have hpl : ps.length ≤ 100001 := by rw [← hpe, splitB_len]; have := List.count_le_length (a := (46 : UInt8)) (l := l); omega
  rw [hpe] at hno hps hdef hSp hlen200
  rw [hr] at hno hdef hnn ⊢
  by_cases h200 : 200 < (l.length : Int)
  · have hrn : r = none := by
      by_cases q : ps.all okP = true
      · refine hno (.inr ?_)
        rcases Nat.lt_or_ge 16 ps.length with q2 | q2
        · exact q2
        · have := hlen200 q q2; omega
      · exact hno (.inl (by simpa using q))
    rw [hnn hrn]
    clear hno hnn hlen200 hps hdef hSp
    repeat (first | with_reducible refine seq_k fun K hK => ?_ | (with_reducible refine region_k fun K hK => ?_; simp [*]) | (with_reducible refine region_drawT_k mixedO (by decide +kernel) fun K hK => ?_; simp [*]) | (with_reducible refine region_tame_a mixedO (by decide +kernel) fun K hK => ?_; simp [*, Low, isLoadB, isTameB, List.range_succ, List.range']) | with_reducible refine pwp_block ?_ | with_reducible refine pwp_skip ?_ | with_reducible refine pwp_ret ?_ | with_reducible refine pwp_exit ?_ | (with_reducible refine cond_t ?_ ?_; (focus (simp [*]; done))) | (with_reducible refine cond_f ?_ ?_; (focus (simp [*]; done))) | with_reducible refine then_n ?_ | with_reducible refine then_r ?_ | with_reducible refine then_e ?_ | with_reducible refine then_g ?_ | with_reducible refine inB_n ?_ | with_reducible refine inB_r ?_ | with_reducible refine inB_e ?_ | with_reducible refine inB_o rfl ?_ | with_reducible refine inB_g ?_ | with_reducible refine Leads.go (by assumption) ?_)
    simp [*]
    rfl
  clear hlen200
  obtain ⟨N, hN⟩ : ∃ N, ps.map (fun p => natD (digVal p)) = N := ⟨_, rfl⟩
  have hNl : N.length = ps.length := by rw [← hN]; simp
  repeat (first | with_reducible refine seq_k fun K hK => ?_ | (with_reducible refine region_k fun K hK => ?_; simp [*]) | (with_reducible refine region_drawT_k mixedO (by decide +kernel) fun K hK => ?_; simp [*]) | (with_reducible refine region_tame_a mixedO (by decide +kernel) fun K hK => ?_; simp [*, Low, isLoadB, isTameB, List.range_succ, List.range']) | with_reducible refine pwp_block ?_ | with_reducible refine pwp_skip ?_ | with_reducible refine pwp_ret ?_ | with_reducible refine pwp_exit ?_ | (with_reducible refine cond_t ?_ ?_; (focus (simp [*]; done))) | (with_reducible refine cond_f ?_ ?_; (focus (simp [*]; done))) | with_reducible refine then_n ?_ | with_reducible refine then_r ?_ | with_reducible refine then_e ?_ | with_reducible refine then_g ?_ | with_reducible refine inB_n ?_ | with_reducible refine inB_r ?_ | with_reducible refine inB_e ?_ | with_reducible refine inB_o rfl ?_ | with_reducible refine inB_g ?_ | with_reducible refine Leads.go (by assumption) ?_)
  refine PCalls.mono (hSp _) ?_
  intro d3 H3 hd3
  rw [hd3.1, hd3.2]
  clear hd3
  try simp [*]
  repeat (first | with_reducible refine seq_k fun K hK => ?_ | (with_reducible refine region_k fun K hK => ?_; simp [*]) | (with_reducible refine region_drawT_k mixedO (by decide +kernel) fun K hK => ?_; simp [*]) | (with_reducible refine region_tame_a mixedO (by decide +kernel) fun K hK => ?_; simp [*, Low, isLoadB, isTameB, List.range_succ, List.range']) | with_reducible refine pwp_block ?_ | with_reducible refine pwp_skip ?_ | with_reducible refine pwp_ret ?_ | with_reducible refine pwp_exit ?_ | (with_reducible refine cond_t ?_ ?_; (focus (simp [*]; done))) | (with_reducible refine cond_f ?_ ?_; (focus (simp [*]; done))) | with_reducible refine then_n ?_ | with_reducible refine then_r ?_ | with_reducible refine then_e ?_ | with_reducible refine then_g ?_ | with_reducible refine inB_n ?_ | with_reducible refine inB_r ?_ | with_reducible refine inB_e ?_ | with_reducible refine inB_o rfl ?_ | with_reducible refine inB_g ?_ | with_reducible refine Leads.go (by assumption) ?_)
  refine pwp_for (ps.length) (fun k st => st.env.n = 69 ∧ st.df = [] ∧ st.env.get 4 = .slice 0 9 (ps.map sD) ∧ st.env.get 6 = .val (.int .i64 (k : Nat)) ∧ (Hold ((ps.take k).all okP = true) ∧ ∃ d, st.env.get 5 = d ∧ Grow st.H d 3 (N.take k))) ⟨by first | (simp; done) | (simp [*]; done), rfl, by first | (simp; done) | (simp [*]; done), by first | (simp; done) | (simp [*]; done), ?_⟩ ?_ ?_
  · exact ⟨⟨by simp⟩, .slice 1 0 [], by simp, by simpa using Grow.nil _ _⟩
  · rintro k ⟨E, Hx, df⟩ hk ⟨en, edf, e4, e6, eP⟩
    simp only at en edf e4 e6
    subst edf
    have hki : (k : Int) < ((ps.length : Nat) : Int) := by omega
    have hkw := wrapSucc k (by omega)
    obtain ⟨⟨hall⟩, d, e5, hG⟩ := eP
    simp only at e5 hG
    obtain ⟨p, hp⟩ : ∃ p, ps[k]? = some p := ⟨_, List.getElem?_eq_getElem hk⟩
    have hpp := hps p (List.mem_of_getElem? hp)
    have hpm : (ps.map sD)[k]? = some (sD p) := by rw [List.getElem?_map, hp]; rfl
    have hgd : (ps.map sD).getD k .undef = sD p := by rw [List.getD, hpm]; rfl
    have hgl := get_of hpm
    have hgl2 := get_of hp
    have hml : (ps.map sD).length = ps.length := by simp
    have hs := all_take_succ' okP ps k p hp
    rw [hall, Bool.true_and] at hs
    have hNk : N[k]? = some (natD (digVal p)) := by rw [← hN, List.getElem?_map, hp]; rfl
    have htm : N.take (k + 1) = N.take k ++ [natD (digVal p)] := by rw [List.take_add_one, hNk]; rfl
    simp only [natD] at htm hNk
    have hR := rReadDigits_spec p (by omega)
    have hb : (N.take k).length = k := by simp; omega
    have kp := Hold.mk (And.intro hall (And.intro hno hnn))
    clear hall hno hnn hps hdef hpp hSp
    simp only [sD] at hgd hgl
    by_cases ho : okP p = true
    · obtain ⟨hrd, hp10, hlt⟩ := okP_read ho
      have hp10' : ¬ 10 < (p.length : Int) := by omega
      rw [ho] at hs
      simp only [hrd, rdD, Option.getD, Option.isSome] at hR
      repeat (first | with_reducible refine seq_k fun K hK => ?_ | (with_reducible refine region_k fun K hK => ?_; simp [*]) | (with_reducible refine region_drawT_k mixedO (by decide +kernel) fun K hK => ?_; simp [*]) | (with_reducible refine region_tame_a mixedO (by decide +kernel) fun K hK => ?_; simp [*, Low, isLoadB, isTameB, List.range_succ, List.range']) | with_reducible refine pwp_block ?_ | with_reducible refine pwp_skip ?_ | with_reducible refine pwp_ret ?_ | with_reducible refine pwp_exit ?_ | (with_reducible refine cond_t ?_ ?_; (focus (simp [*]; done))) | (with_reducible refine cond_f ?_ ?_; (focus (simp [*]; done))) | with_reducible refine then_n ?_ | with_reducible refine then_r ?_ | with_reducible refine then_e ?_ | with_reducible refine then_g ?_ | with_reducible refine inB_n ?_ | with_reducible refine inB_r ?_ | with_reducible refine inB_e ?_ | with_reducible refine inB_o rfl ?_ | with_reducible refine inB_g ?_ | with_reducible refine Leads.go (by assumption) ?_)
      refine PCalls.mono (hR _) ?_
      intro d3 H3 hd3
      rw [hd3.1, hd3.2]
      clear hd3
      try simp [*]
      try simp [*]
      repeat (first | with_reducible refine seq_k fun K hK => ?_ | (with_reducible refine region_k fun K hK => ?_; simp [*]) | (with_reducible refine region_drawT_k mixedO (by decide +kernel) fun K hK => ?_; simp [*]) | (with_reducible refine region_tame_a mixedO (by decide +kernel) fun K hK => ?_; simp [*, Low, isLoadB, isTameB, List.range_succ, List.range']) | with_reducible refine pwp_block ?_ | with_reducible refine pwp_skip ?_ | with_reducible refine pwp_ret ?_ | with_reducible refine pwp_exit ?_ | (with_reducible refine cond_t ?_ ?_; (focus (simp [*]; done))) | (with_reducible refine cond_f ?_ ?_; (focus (simp [*]; done))) | with_reducible refine then_n ?_ | with_reducible refine then_r ?_ | with_reducible refine then_e ?_ | with_reducible refine then_g ?_ | with_reducible refine inB_n ?_ | with_reducible refine inB_r ?_ | with_reducible refine inB_e ?_ | with_reducible refine inB_o rfl ?_ | with_reducible refine inB_g ?_ | with_reducible refine Leads.go (by assumption) ?_)
      refine oK_grow hG ?_ ?_
      · simp; omega
      intro d2 H2 hG2 hn2 hH2 hf2
      try simp [*]
      repeat (first | with_reducible refine seq_k fun K hK => ?_ | (with_reducible refine region_k fun K hK => ?_; simp [*]) | (with_reducible refine region_drawT_k mixedO (by decide +kernel) fun K hK => ?_; simp [*]) | (with_reducible refine region_tame_a mixedO (by decide +kernel) fun K hK => ?_; simp [*, Low, isLoadB, isTameB, List.range_succ, List.range']) | with_reducible refine pwp_block ?_ | with_reducible refine pwp_skip ?_ | with_reducible refine pwp_ret ?_ | with_reducible refine pwp_exit ?_ | (with_reducible refine cond_t ?_ ?_; (focus (simp [*]; done))) | (with_reducible refine cond_f ?_ ?_; (focus (simp [*]; done))) | with_reducible refine then_n ?_ | with_reducible refine then_r ?_ | with_reducible refine then_e ?_ | with_reducible refine then_g ?_ | with_reducible refine inB_n ?_ | with_reducible refine inB_r ?_ | with_reducible refine inB_e ?_ | with_reducible refine inB_o rfl ?_ | with_reducible refine inB_g ?_ | with_reducible refine Leads.go (by assumption) ?_)
      simp [*]
      have hh : Hold ((ps.take (k + 1)).all okP = true) := ⟨hs⟩
      first
      | exact ⟨trivial⟩
      | exact hG2
      | exact ⟨by simpa using hh, hG2⟩
      | (trace_state; done)
    · have ho' : okP p = false := by simpa using ho
      have hrn : r = none := kp.out.2.1 (.inl (all_not' okP ps k p hp ho'))
      have hfin := kp.out.2.2 hrn
      rw [hfin]
      by_cases hp10 : 10 < (p.length : Int)
      · obtain ⟨o, hrd⟩ : ∃ o, readDigits p = o := ⟨_, rfl⟩
        rw [hrd] at hR
        rcases o with _ | n
        · simp only [rdD, Option.getD, Option.isSome] at hR
          repeat (first | with_reducible refine seq_k fun K hK => ?_ | (with_reducible refine region_k fun K hK => ?_; simp [*]) | (with_reducible refine region_drawT_k mixedO (by decide +kernel) fun K hK => ?_; simp [*]) | (with_reducible refine region_tame_a mixedO (by decide +kernel) fun K hK => ?_; simp [*, Low, isLoadB, isTameB, List.range_succ, List.range']) | with_reducible refine pwp_block ?_ | with_reducible refine pwp_skip ?_ | with_reducible refine pwp_ret ?_ | with_reducible refine pwp_exit ?_ | (with_reducible refine cond_t ?_ ?_; (focus (simp [*]; done))) | (with_reducible refine cond_f ?_ ?_; (focus (simp [*]; done))) | with_reducible refine then_n ?_ | with_reducible refine then_r ?_ | with_reducible refine then_e ?_ | with_reducible refine then_g ?_ | with_reducible refine inB_n ?_ | with_reducible refine inB_r ?_ | with_reducible refine inB_e ?_ | with_reducible refine inB_o rfl ?_ | with_reducible refine inB_g ?_ | with_reducible refine Leads.go (by assumption) ?_)
          refine PCalls.mono (hR _) ?_
          intro d3 H3 hd3
          rw [hd3.1, hd3.2]
          clear hd3
          try simp [*]
          try simp [*]
          repeat (first | with_reducible refine seq_k fun K hK => ?_ | (with_reducible refine region_k fun K hK => ?_; simp [*]) | (with_reducible refine region_drawT_k mixedO (by decide +kernel) fun K hK => ?_; simp [*]) | (with_reducible refine region_tame_a mixedO (by decide +kernel) fun K hK => ?_; simp [*, Low, isLoadB, isTameB, List.range_succ, List.range']) | with_reducible refine pwp_block ?_ | with_reducible refine pwp_skip ?_ | with_reducible refine pwp_ret ?_ | with_reducible refine pwp_exit ?_ | (with_reducible refine cond_t ?_ ?_; (focus (simp [*]; done))) | (with_reducible refine cond_f ?_ ?_; (focus (simp [*]; done))) | with_reducible refine then_n ?_ | with_reducible refine then_r ?_ | with_reducible refine then_e ?_ | with_reducible refine then_g ?_ | with_reducible refine inB_n ?_ | with_reducible refine inB_r ?_ | with_reducible refine inB_e ?_ | with_reducible refine inB_o rfl ?_ | with_reducible refine inB_g ?_ | with_reducible refine Leads.go (by assumption) ?_)
          simp [*]
          rfl
        · simp only [rdD, Option.getD, Option.isSome] at hR
          repeat (first | with_reducible refine seq_k fun K hK => ?_ | (with_reducible refine region_k fun K hK => ?_; simp [*]) | (with_reducible refine region_drawT_k mixedO (by decide +kernel) fun K hK => ?_; simp [*]) | (with_reducible refine region_tame_a mixedO (by decide +kernel) fun K hK => ?_; simp [*, Low, isLoadB, isTameB, List.range_succ, List.range']) | with_reducible refine pwp_block ?_ | with_reducible refine pwp_skip ?_ | with_reducible refine pwp_ret ?_ | with_reducible refine pwp_exit ?_ | (with_reducible refine cond_t ?_ ?_; (focus (simp [*]; done))) | (with_reducible refine cond_f ?_ ?_; (focus (simp [*]; done))) | with_reducible refine then_n ?_ | with_reducible refine then_r ?_ | with_reducible refine then_e ?_ | with_reducible refine then_g ?_ | with_reducible refine inB_n ?_ | with_reducible refine inB_r ?_ | with_reducible refine inB_e ?_ | with_reducible refine inB_o rfl ?_ | with_reducible refine inB_g ?_ | with_reducible refine Leads.go (by assumption) ?_)
          refine PCalls.mono (hR _) ?_
          intro d3 H3 hd3
          rw [hd3.1, hd3.2]
          clear hd3
          try simp [*]
          try simp [*]
          repeat (first | with_reducible refine seq_k fun K hK => ?_ | (with_reducible refine region_k fun K hK => ?_; simp [*]) | (with_reducible refine region_drawT_k mixedO (by decide +kernel) fun K hK => ?_; simp [*]) | (with_reducible refine region_tame_a mixedO (by decide +kernel) fun K hK => ?_; simp [*, Low, isLoadB, isTameB, List.range_succ, List.range']) | with_reducible refine pwp_block ?_ | with_reducible refine pwp_skip ?_ | with_reducible refine pwp_ret ?_ | with_reducible refine pwp_exit ?_ | (with_reducible refine cond_t ?_ ?_; (focus (simp [*]; done))) | (with_reducible refine cond_f ?_ ?_; (focus (simp [*]; done))) | with_reducible refine then_n ?_ | with_reducible refine then_r ?_ | with_reducible refine then_e ?_ | with_reducible refine then_g ?_ | with_reducible refine inB_n ?_ | with_reducible refine inB_r ?_ | with_reducible refine inB_e ?_ | with_reducible refine inB_o rfl ?_ | with_reducible refine inB_g ?_ | with_reducible refine Leads.go (by assumption) ?_)
          simp [*]
          rfl
      · have hrd := okP_not ho' (by omega)
        simp only [hrd, rdD, Option.getD, Option.isSome] at hR
        repeat (first | with_reducible refine seq_k fun K hK => ?_ | (with_reducible refine region_k fun K hK => ?_; simp [*]) | (with_reducible refine region_drawT_k mixedO (by decide +kernel) fun K hK => ?_; simp [*]) | (with_reducible refine region_tame_a mixedO (by decide +kernel) fun K hK => ?_; simp [*, Low, isLoadB, isTameB, List.range_succ, List.range']) | with_reducible refine pwp_block ?_ | with_reducible refine pwp_skip ?_ | with_reducible refine pwp_ret ?_ | with_reducible refine pwp_exit ?_ | (with_reducible refine cond_t ?_ ?_; (focus (simp [*]; done))) | (with_reducible refine cond_f ?_ ?_; (focus (simp [*]; done))) | with_reducible refine then_n ?_ | with_reducible refine then_r ?_ | with_reducible refine then_e ?_ | with_reducible refine then_g ?_ | with_reducible refine inB_n ?_ | with_reducible refine inB_r ?_ | with_reducible refine inB_e ?_ | with_reducible refine inB_o rfl ?_ | with_reducible refine inB_g ?_ | with_reducible refine Leads.go (by assumption) ?_)
        refine PCalls.mono (hR _) ?_
        intro d3 H3 hd3
        rw [hd3.1, hd3.2]
        clear hd3
        try simp [*]
        try simp [*]
        repeat (first | with_reducible refine seq_k fun K hK => ?_ | (with_reducible refine region_k fun K hK => ?_; simp [*]) | (with_reducible refine region_drawT_k mixedO (by decide +kernel) fun K hK => ?_; simp [*]) | (with_reducible refine region_tame_a mixedO (by decide +kernel) fun K hK => ?_; simp [*, Low, isLoadB, isTameB, List.range_succ, List.range']) | with_reducible refine pwp_block ?_ | with_reducible refine pwp_skip ?_ | with_reducible refine pwp_ret ?_ | with_reducible refine pwp_exit ?_ | (with_reducible refine cond_t ?_ ?_; (focus (simp [*]; done))) | (with_reducible refine cond_f ?_ ?_; (focus (simp [*]; done))) | with_reducible refine then_n ?_ | with_reducible refine then_r ?_ | with_reducible refine then_e ?_ | with_reducible refine then_g ?_ | with_reducible refine inB_n ?_ | with_reducible refine inB_r ?_ | with_reducible refine inB_e ?_ | with_reducible refine inB_o rfl ?_ | with_reducible refine inB_g ?_ | with_reducible refine Leads.go (by assumption) ?_)
        simp [*]
        rfl
  · rintro ⟨E, Hx, df⟩ ⟨en, edf, e4, e6, eP⟩
    simp only at en edf e4 e6
    subst edf
    obtain ⟨⟨hall⟩, d, e5, hG⟩ := eP
    simp only [List.take_length] at e5 hG hall
    rw [hall, if_pos rfl] at hdef
    have hlen := lenG42 hG
    rw [List.take_of_length_le (by omega)] at hG hlen
    rw [hNl] at hlen
    rw [← hN] at hG
    clear hps hSp hN hNl
    rcases ps with _ | ⟨pa, ps⟩
    · exact absurd hpe (splitB_ne _ _)
    rcases ps with _ | ⟨pb, ps⟩
    · have hrn : r = none := by rw [hdef]; rfl
      rw [hnn hrn]
      clear hno
      simp only [List.length_cons, List.length_nil, Nat.zero_add] at *
      repeat (first | with_reducible refine seq_k fun K hK => ?_ | (with_reducible refine region_k fun K hK => ?_; simp [*]) | (with_reducible refine region_drawT_k mixedO (by decide +kernel) fun K hK => ?_; simp [*]) | (with_reducible refine region_tame_a mixedO (by decide +kernel) fun K hK => ?_; simp [*, Low, isLoadB, isTameB, List.range_succ, List.range']) | with_reducible refine pwp_block ?_ | with_reducible refine pwp_skip ?_ | with_reducible refine pwp_ret ?_ | with_reducible refine pwp_exit ?_ | (with_reducible refine cond_t ?_ ?_; (focus (simp [*]; done))) | (with_reducible refine cond_f ?_ ?_; (focus (simp [*]; done))) | with_reducible refine then_n ?_ | with_reducible refine then_r ?_ | with_reducible refine then_e ?_ | with_reducible refine then_g ?_ | with_reducible refine inB_n ?_ | with_reducible refine inB_r ?_ | with_reducible refine inB_e ?_ | with_reducible refine inB_o rfl ?_ | with_reducible refine inB_g ?_ | with_reducible refine Leads.go (by assumption) ?_)
      simp [*]
      rfl
    · rcases hG with ⟨hb, _⟩ | ⟨i, hi, rfl, hgi, _⟩
      · simp at hb
      have hl2 : ¬ ((ps.length : Int) + 1 + 1 < 2) := by omega
      have hl3 : (1 : Int) < (ps.length : Int) + 1 + 1 := by omega
      have hl4 : (0 : Int) < (ps.length : Int) + 1 + 1 := by omega
      by_cases h16 : 16 < (ps.length : Int) + 1 + 1
      · have hrn : r = none := hno (.inr (by simp; omega))
        rw [hnn hrn]
        clear hno hnn hdef
        simp only [List.map_cons, List.length_cons, List.length_map] at *
        repeat (first | with_reducible refine seq_k fun K hK => ?_ | (with_reducible refine region_k fun K hK => ?_; simp [*]) | (with_reducible refine region_drawT_k mixedO (by decide +kernel) fun K hK => ?_; simp [*]) | (with_reducible refine region_tame_a mixedO (by decide +kernel) fun K hK => ?_; simp [*, Low, isLoadB, isTameB, List.range_succ, List.range']) | with_reducible refine pwp_block ?_ | with_reducible refine pwp_skip ?_ | with_reducible refine pwp_ret ?_ | with_reducible refine pwp_exit ?_ | (with_reducible refine cond_t ?_ ?_; (focus (simp [*]; done))) | (with_reducible refine cond_f ?_ ?_; (focus (simp [*]; done))) | with_reducible refine then_n ?_ | with_reducible refine then_r ?_ | with_reducible refine then_e ?_ | with_reducible refine then_g ?_ | with_reducible refine inB_n ?_ | with_reducible refine inB_r ?_ | with_reducible refine inB_e ?_ | with_reducible refine inB_o rfl ?_ | with_reducible refine inB_g ?_ | with_reducible refine Leads.go (by assumption) ?_)
        simp [*]
        rfl
      clear hno
      simp only [List.map_cons, List.length_cons, List.length_map] at *
      have hr14 : (List.map digVal ps).length ≤ 14 := by simp; omega
      have hao : arcOk (digVal pa :: digVal pb :: List.map digVal ps) = (decide (digVal pa ≤ 2) && (decide (2 ≤ digVal pa) || decide (digVal pb < 40))) := by
        simp only [arcOk, hr14, decide_true, Bool.true_and]
      rw [hao] at hdef
      have hfz : ∀ H : Heap, mapO (fz Tryd.prog 2 H) (natD (digVal pa) :: natD (digVal pb) :: List.map (fun p => natD (digVal p)) ps) = some (natD (digVal pa) :: natD (digVal pb) :: List.map (fun p => natD (digVal p)) ps) := fun H =>
        fz_vals (fun p : By => .int .i64 ((digVal p : Nat) : Int)) 1 H (pa :: pb :: ps)
      have kp := Hold.mk hfz
      generalize hA : List.map (fun p => natD (digVal p)) ps = A at *
      have hAl : A.length = ps.length := by rw [← hA]; simp
      clear hao hr14 hfz hlen
      generalize digVal pa = a at *
      generalize digVal pb = b at *
      have fin : r = some (a :: b :: List.map digVal ps) → fz Tryd.prog 4 Hx (.tup [.row i 3 0 (ps.length + 1 + 1), .val (.bool true)]) = some (arcsD (some (a :: b :: List.map digVal ps))) := fun _ => by
        have g : Grow Hx (.row i 3 0 (natD a :: natD b :: A).length) 3 (natD a :: natD b :: A) := .inr ⟨i, hi, rfl, hgi, by simp⟩
        have h2 := fz_two (n := 2) (v := .bool true) (g.fz (kp.out _))
        simp only [List.length_cons, hAl] at h2
        rw [h2, arcsD, frD, if_neg (by simp), ← hA]
        simp
      simp only [natD] at hgi
      by_cases h1 : 2 < (a : Int)
      · have hrn : r = none := by rw [hdef]; simp; omega
        rw [hnn hrn]
        clear hdef hnn
        repeat (first | with_reducible refine seq_k fun K hK => ?_ | (with_reducible refine region_k fun K hK => ?_; simp [*]) | (with_reducible refine region_drawT_k mixedO (by decide +kernel) fun K hK => ?_; simp [*]) | (with_reducible refine region_tame_a mixedO (by decide +kernel) fun K hK => ?_; simp [*, Low, isLoadB, isTameB, List.range_succ, List.range']) | with_reducible refine pwp_block ?_ | with_reducible refine pwp_skip ?_ | with_reducible refine pwp_ret ?_ | with_reducible refine pwp_exit ?_ | (with_reducible refine cond_t ?_ ?_; (focus (simp [*]; done))) | (with_reducible refine cond_f ?_ ?_; (focus (simp [*]; done))) | with_reducible refine then_n ?_ | with_reducible refine then_r ?_ | with_reducible refine then_e ?_ | with_reducible refine then_g ?_ | with_reducible refine inB_n ?_ | with_reducible refine inB_r ?_ | with_reducible refine inB_e ?_ | with_reducible refine inB_o rfl ?_ | with_reducible refine inB_g ?_ | with_reducible refine Leads.go (by assumption) ?_)
        simp [*]
        rfl
      · by_cases h2 : (a : Int) < 2
        · by_cases h3 : 39 < (b : Int)
          · have hrn : r = none := by rw [hdef]; simp; omega
            rw [hnn hrn]
            clear hdef hnn
            repeat (first | with_reducible refine seq_k fun K hK => ?_ | (with_reducible refine region_k fun K hK => ?_; simp [*]) | (with_reducible refine region_drawT_k mixedO (by decide +kernel) fun K hK => ?_; simp [*]) | (with_reducible refine region_tame_a mixedO (by decide +kernel) fun K hK => ?_; simp [*, Low, isLoadB, isTameB, List.range_succ, List.range']) | with_reducible refine pwp_block ?_ | with_reducible refine pwp_skip ?_ | with_reducible refine pwp_ret ?_ | with_reducible refine pwp_exit ?_ | (with_reducible refine cond_t ?_ ?_; (focus (simp [*]; done))) | (with_reducible refine cond_f ?_ ?_; (focus (simp [*]; done))) | with_reducible refine then_n ?_ | with_reducible refine then_r ?_ | with_reducible refine then_e ?_ | with_reducible refine then_g ?_ | with_reducible refine inB_n ?_ | with_reducible refine inB_r ?_ | with_reducible refine inB_e ?_ | with_reducible refine inB_o rfl ?_ | with_reducible refine inB_g ?_ | with_reducible refine Leads.go (by assumption) ?_)
            simp [*]
            rfl
          · have hrs : r = some (a :: b :: List.map digVal ps) := by rw [hdef, if_pos]; simp; omega
            clear hdef hnn
            repeat (first | with_reducible refine seq_k fun K hK => ?_ | (with_reducible refine region_k fun K hK => ?_; simp [*]) | (with_reducible refine region_drawT_k mixedO (by decide +kernel) fun K hK => ?_; simp [*]) | (with_reducible refine region_tame_a mixedO (by decide +kernel) fun K hK => ?_; simp [*, Low, isLoadB, isTameB, List.range_succ, List.range']) | with_reducible refine pwp_block ?_ | with_reducible refine pwp_skip ?_ | with_reducible refine pwp_ret ?_ | with_reducible refine pwp_exit ?_ | (with_reducible refine cond_t ?_ ?_; (focus (simp [*]; done))) | (with_reducible refine cond_f ?_ ?_; (focus (simp [*]; done))) | with_reducible refine then_n ?_ | with_reducible refine then_r ?_ | with_reducible refine then_e ?_ | with_reducible refine then_g ?_ | with_reducible refine inB_n ?_ | with_reducible refine inB_r ?_ | with_reducible refine inB_e ?_ | with_reducible refine inB_o rfl ?_ | with_reducible refine inB_g ?_ | with_reducible refine Leads.go (by assumption) ?_)
            simp [*]
            try exact fin hrs
        · have hrs : r = some (a :: b :: List.map digVal ps) := by rw [hdef, if_pos]; simp; omega
          clear hdef hnn
          repeat (first | with_reducible refine seq_k fun K hK => ?_ | (with_reducible refine region_k fun K hK => ?_; simp [*]) | (with_reducible refine region_drawT_k mixedO (by decide +kernel) fun K hK => ?_; simp [*]) | (with_reducible refine region_tame_a mixedO (by decide +kernel) fun K hK => ?_; simp [*, Low, isLoadB, isTameB, List.range_succ, List.range']) | with_reducible refine pwp_block ?_ | with_reducible refine pwp_skip ?_ | with_reducible refine pwp_ret ?_ | with_reducible refine pwp_exit ?_ | (with_reducible refine cond_t ?_ ?_; (focus (simp [*]; done))) | (with_reducible refine cond_f ?_ ?_; (focus (simp [*]; done))) | with_reducible refine then_n ?_ | with_reducible refine then_r ?_ | with_reducible refine then_e ?_ | with_reducible refine then_g ?_ | with_reducible refine inB_n ?_ | with_reducible refine inB_r ?_ | with_reducible refine inB_e ?_ | with_reducible refine inB_o rfl ?_ | with_reducible refine inB_g ?_ | with_reducible refine Leads.go (by assumption) ?_)
          simp [*]
          try exact fin hrs
theorem rArcs_spec (l : By) (hl : l.length ≤ 100000) (H : Heap) : PCalls Tryd.prog 27 [sD l] H fun d H' => d = arcsD (arcsM l) ∧ H' = H :=
  PCalls.liftG (PCalls.frozen (rArcs_local l hl)) (fun d hd => by
    simp only [List.mem_cons, List.mem_nil_iff, or_false] at hd
    subst hd; exact .val _) (pure_arcs _) H
end Go.Pv
