/- A part of the proof: functions of the program, walked, or what operations come to. -/
import Derived.Test.YtaglagcanhiemaaDoorPvOH
import Derived.Test.YtaglagcanhiemaaDoorPvUniq
-- ZpvTameA ZpvDrawT
namespace Go.Pv
open Go.Proofs
attribute [-simp] eLen UInt8.ofNat_add

/-! ### The document's Describe -/
theorem setAll_one (E : Env) (i : Nat) (d : D) : setAll E [(i, d)] = E.set i d := rfl
theorem fz_slice {P : Program} (n : Nat) (H : Heap) (g e : Nat) (L : List By) : fz P (n + 2) H (.slice g e (L.map sD)) = some (.slice g e (L.map sD)) := by
  have := fz_vals (P := P) (fun s : By => .string ⟨s.toArray⟩) n H L
  rw [fz]
  show (match mapO (fz P (n + 1) H) (L.map fun x => D.val (.string ⟨x.toArray⟩)) with | some l' => some (D.slice g e l') | none => none) = _
  rw [this]; rfl
set_option maxHeartbeats 8000000 in
set_option maxRecDepth 100000 in
theorem rDescribe_local (s : By) (hs : s.length ≤ 100000) : PCalls Tryd.prog 17 [sD s] (noHeap noG) fun d H' => fz Tryd.prog 4 H' d = some (descD (descM s)) := by
  refine PCalls.of_pwp Tryd.call17 Tryd.func17 rfl (by simp [Tryd.ntmps17]) ?_
  rw [Tryd.ntmps17]
  have hlow : (lowL s).length = s.length := by simp [lowL]
  have hdef : descM s = if 64 < s.length then none else match splitB 59 (lowL s) with
    | [] => none
    | p :: ps => if (arcsM p).isSome = true ∨ wordB p = true then (if ps.all signsB = true then some (p, sortU ps) else none) else none := rfl
  obtain ⟨M, hM⟩ : ∃ M, descM s = M := ⟨_, rfl⟩
  rw [hM] at hdef ⊢
  have hnn : M = none → descD M = .tup [sD [], .slice 1 0 [], .val (.bool false)] := fun h => by rw [h]; rfl
  by_cases h64 : 64 < (s.length : Int)
  · rw [if_pos (by omega)] at hdef
    rw [hnn hdef]
    clear hdef hnn hM
    repeat (first | with_reducible refine seq_k fun K hK => ?_ | (with_reducible refine region_k fun K hK => ?_; simp [*]) | (with_reducible refine region_drawT_k mixedO (by decide +kernel) fun K hK => ?_; simp [*]) | (with_reducible refine region_tame_a mixedO (by decide +kernel) fun K hK => ?_; simp [*, Low, isLoadB, isTameB, List.range_succ, List.range']) | with_reducible refine pwp_block ?_ | with_reducible refine pwp_skip ?_ | with_reducible refine pwp_ret ?_ | with_reducible refine pwp_exit ?_ | (with_reducible refine cond_t ?_ ?_; (focus (simp [*]; done))) | (with_reducible refine cond_f ?_ ?_; (focus (simp [*]; done))) | with_reducible refine then_n ?_ | with_reducible refine then_r ?_ | with_reducible refine then_e ?_ | with_reducible refine then_g ?_ | with_reducible refine inB_n ?_ | with_reducible refine inB_r ?_ | with_reducible refine inB_e ?_ | with_reducible refine inB_o rfl ?_ | with_reducible refine inB_g ?_ | with_reducible refine Leads.go (by assumption) ?_)
    simp [*]
    rfl
  rw [if_neg (by omega)] at hdef
  have hSp := rparts_spec (lowL s) 59 (by omega)
  have h59 : (((59 : UInt8).toNat : Nat) : Int) = 59 := rfl
  rw [h59] at hSp
  have hLo := rLower_spec s hs
  have hpl := splitB_parts 59 (lowL s)
  have hcn := splitB_len 59 (lowL s)
  have hcl := List.count_le_length (a := (59 : UInt8)) (l := lowL s)
  rcases hps : splitB 59 (lowL s) with _ | ⟨p, ps⟩
  · exact absurd hps (splitB_ne _ _)
  rw [hps] at hdef hSp hpl hcn
  simp only at hdef
  have hp := hpl p (by simp)
  have hpsl : ps.length ≤ 64 := by simp only [List.length_cons] at hcn; omega
  have hN := rArcs_spec p (by omega)
  have hW := rWord_spec p (by omega)
  have hpm : (ps.map sD).length = ps.length := by simp
  have l0 : (0 : Int) < (ps.length : Int) + 1 := by omega
  rw [List.map_cons] at hSp
  have kp := Hold.mk hpl
  clear hps hcn hcl hM hpl
  obtain ⟨X, hX⟩ : ∃ X, ps.map sD = X := ⟨_, rfl⟩
  have kX := Hold.mk hX
  rw [hX] at hSp hpm
  clear hX
  obtain ⟨q1, hq1⟩ : ∃ q, arcsM p = q := ⟨_, rfl⟩
  obtain ⟨q2, hq2⟩ : ∃ q, wordB p = q := ⟨_, rfl⟩
  rw [hq1] at hN hdef
  rw [hq2] at hW hdef
  by_cases hok : q1.isSome = true ∨ q2 = true
  case neg =>
    obtain rfl : q1 = none := by rcases q1 with _ | q; rfl; exact absurd (.inl rfl) hok
    obtain rfl : q2 = false := by simpa using fun q => hok (.inr q)
    rw [if_neg (by simp)] at hdef
    rw [hnn hdef]
    simp only [arcsD] at hN
    clear hdef hnn hok
    repeat (first | with_reducible refine seq_k fun K hK => ?_ | (with_reducible refine region_k fun K hK => ?_; simp [*]) | (with_reducible refine region_drawT_k mixedO (by decide +kernel) fun K hK => ?_; simp [*]) | (with_reducible refine region_tame_a mixedO (by decide +kernel) fun K hK => ?_; simp [*, Low, isLoadB, isTameB, List.range_succ, List.range']) | with_reducible refine pwp_block ?_ | with_reducible refine pwp_skip ?_ | with_reducible refine pwp_ret ?_ | with_reducible refine pwp_exit ?_ | (with_reducible refine cond_t ?_ ?_; (focus (simp [*]; done))) | (with_reducible refine cond_f ?_ ?_; (focus (simp [*]; done))) | with_reducible refine then_n ?_ | with_reducible refine then_r ?_ | with_reducible refine then_e ?_ | with_reducible refine then_g ?_ | with_reducible refine inB_n ?_ | with_reducible refine inB_r ?_ | with_reducible refine inB_e ?_ | with_reducible refine inB_o rfl ?_ | with_reducible refine inB_g ?_ | with_reducible refine Leads.go (by assumption) ?_)
    refine PCalls.mono (hLo _) ?_
    intro d3 H3 hd3
    rw [hd3.1, hd3.2]
    clear hd3
    try simp [*]
    repeat (first | with_reducible refine seq_k fun K hK => ?_ | (with_reducible refine region_k fun K hK => ?_; simp [*]) | (with_reducible refine region_drawT_k mixedO (by decide +kernel) fun K hK => ?_; simp [*]) | (with_reducible refine region_tame_a mixedO (by decide +kernel) fun K hK => ?_; simp [*, Low, isLoadB, isTameB, List.range_succ, List.range']) | with_reducible refine pwp_block ?_ | with_reducible refine pwp_skip ?_ | with_reducible refine pwp_ret ?_ | with_reducible refine pwp_exit ?_ | (with_reducible refine cond_t ?_ ?_; (focus (simp [*]; done))) | (with_reducible refine cond_f ?_ ?_; (focus (simp [*]; done))) | with_reducible refine then_n ?_ | with_reducible refine then_r ?_ | with_reducible refine then_e ?_ | with_reducible refine then_g ?_ | with_reducible refine inB_n ?_ | with_reducible refine inB_r ?_ | with_reducible refine inB_e ?_ | with_reducible refine inB_o rfl ?_ | with_reducible refine inB_g ?_ | with_reducible refine Leads.go (by assumption) ?_)
    refine PCalls.mono (hSp _) ?_
    intro d3 H3 hd3
    rw [hd3.1, hd3.2]
    clear hd3
    try simp [*]
    repeat (first | with_reducible refine seq_k fun K hK => ?_ | (with_reducible refine region_k fun K hK => ?_; simp [*]) | (with_reducible refine region_drawT_k mixedO (by decide +kernel) fun K hK => ?_; simp [*]) | (with_reducible refine region_tame_a mixedO (by decide +kernel) fun K hK => ?_; simp [*, Low, isLoadB, isTameB, List.range_succ, List.range']) | with_reducible refine pwp_block ?_ | with_reducible refine pwp_skip ?_ | with_reducible refine pwp_ret ?_ | with_reducible refine pwp_exit ?_ | (with_reducible refine cond_t ?_ ?_; (focus (simp [*]; done))) | (with_reducible refine cond_f ?_ ?_; (focus (simp [*]; done))) | with_reducible refine then_n ?_ | with_reducible refine then_r ?_ | with_reducible refine then_e ?_ | with_reducible refine then_g ?_ | with_reducible refine inB_n ?_ | with_reducible refine inB_r ?_ | with_reducible refine inB_e ?_ | with_reducible refine inB_o rfl ?_ | with_reducible refine inB_g ?_ | with_reducible refine Leads.go (by assumption) ?_)
    refine PCalls.mono (hN _) ?_
    intro d3 H3 hd3
    rw [hd3.1, hd3.2]
    clear hd3
    try simp [*]
    repeat (first | with_reducible refine seq_k fun K hK => ?_ | (with_reducible refine region_k fun K hK => ?_; simp [*]) | (with_reducible refine region_drawT_k mixedO (by decide +kernel) fun K hK => ?_; simp [*]) | (with_reducible refine region_tame_a mixedO (by decide +kernel) fun K hK => ?_; simp [*, Low, isLoadB, isTameB, List.range_succ, List.range']) | with_reducible refine pwp_block ?_ | with_reducible refine pwp_skip ?_ | with_reducible refine pwp_ret ?_ | with_reducible refine pwp_exit ?_ | (with_reducible refine cond_t ?_ ?_; (focus (simp [*]; done))) | (with_reducible refine cond_f ?_ ?_; (focus (simp [*]; done))) | with_reducible refine then_n ?_ | with_reducible refine then_r ?_ | with_reducible refine then_e ?_ | with_reducible refine then_g ?_ | with_reducible refine inB_n ?_ | with_reducible refine inB_r ?_ | with_reducible refine inB_e ?_ | with_reducible refine inB_o rfl ?_ | with_reducible refine inB_g ?_ | with_reducible refine Leads.go (by assumption) ?_)
    refine PCalls.mono (hW _) ?_
    intro d3 H3 hd3
    rw [hd3.1, hd3.2]
    clear hd3
    try simp [*]
    try simp [*]
    repeat (first | with_reducible refine seq_k fun K hK => ?_ | (with_reducible refine region_k fun K hK => ?_; simp [*]) | (with_reducible refine region_drawT_k mixedO (by decide +kernel) fun K hK => ?_; simp [*]) | (with_reducible refine region_tame_a mixedO (by decide +kernel) fun K hK => ?_; simp [*, Low, isLoadB, isTameB, List.range_succ, List.range']) | with_reducible refine pwp_block ?_ | with_reducible refine pwp_skip ?_ | with_reducible refine pwp_ret ?_ | with_reducible refine pwp_exit ?_ | (with_reducible refine cond_t ?_ ?_; (focus (simp [*]; done))) | (with_reducible refine cond_f ?_ ?_; (focus (simp [*]; done))) | with_reducible refine then_n ?_ | with_reducible refine then_r ?_ | with_reducible refine then_e ?_ | with_reducible refine then_g ?_ | with_reducible refine inB_n ?_ | with_reducible refine inB_r ?_ | with_reducible refine inB_e ?_ | with_reducible refine inB_o rfl ?_ | with_reducible refine inB_g ?_ | with_reducible refine Leads.go (by assumption) ?_)
    simp [*]
    rfl
  rw [if_pos hok] at hdef
  rcases q1 with _ | q1
  case' none =>
    obtain rfl : q2 = true := by simpa using hok
    clear hok hq1 hq2
    simp only [arcsD] at hN
    have kd := Hold.mk (And.intro hdef hnn)
    clear hdef hnn
    repeat (first | with_reducible refine seq_k fun K hK => ?_ | (with_reducible refine region_k fun K hK => ?_; simp [*]) | (with_reducible refine region_drawT_k mixedO (by decide +kernel) fun K hK => ?_; simp [*]) | (with_reducible refine region_tame_a mixedO (by decide +kernel) fun K hK => ?_; simp [*, Low, isLoadB, isTameB, List.range_succ, List.range']) | with_reducible refine pwp_block ?_ | with_reducible refine pwp_skip ?_ | with_reducible refine pwp_ret ?_ | with_reducible refine pwp_exit ?_ | (with_reducible refine cond_t ?_ ?_; (focus (simp [*]; done))) | (with_reducible refine cond_f ?_ ?_; (focus (simp [*]; done))) | with_reducible refine then_n ?_ | with_reducible refine then_r ?_ | with_reducible refine then_e ?_ | with_reducible refine then_g ?_ | with_reducible refine inB_n ?_ | with_reducible refine inB_r ?_ | with_reducible refine inB_e ?_ | with_reducible refine inB_o rfl ?_ | with_reducible refine inB_g ?_ | with_reducible refine Leads.go (by assumption) ?_)
    refine PCalls.mono (hLo _) ?_
    intro d3 H3 hd3
    rw [hd3.1, hd3.2]
    clear hd3
    try simp [*]
    repeat (first | with_reducible refine seq_k fun K hK => ?_ | (with_reducible refine region_k fun K hK => ?_; simp [*]) | (with_reducible refine region_drawT_k mixedO (by decide +kernel) fun K hK => ?_; simp [*]) | (with_reducible refine region_tame_a mixedO (by decide +kernel) fun K hK => ?_; simp [*, Low, isLoadB, isTameB, List.range_succ, List.range']) | with_reducible refine pwp_block ?_ | with_reducible refine pwp_skip ?_ | with_reducible refine pwp_ret ?_ | with_reducible refine pwp_exit ?_ | (with_reducible refine cond_t ?_ ?_; (focus (simp [*]; done))) | (with_reducible refine cond_f ?_ ?_; (focus (simp [*]; done))) | with_reducible refine then_n ?_ | with_reducible refine then_r ?_ | with_reducible refine then_e ?_ | with_reducible refine then_g ?_ | with_reducible refine inB_n ?_ | with_reducible refine inB_r ?_ | with_reducible refine inB_e ?_ | with_reducible refine inB_o rfl ?_ | with_reducible refine inB_g ?_ | with_reducible refine Leads.go (by assumption) ?_)
    refine PCalls.mono (hSp _) ?_
    intro d3 H3 hd3
    rw [hd3.1, hd3.2]
    clear hd3
    try simp [*]
    repeat (first | with_reducible refine seq_k fun K hK => ?_ | (with_reducible refine region_k fun K hK => ?_; simp [*]) | (with_reducible refine region_drawT_k mixedO (by decide +kernel) fun K hK => ?_; simp [*]) | (with_reducible refine region_tame_a mixedO (by decide +kernel) fun K hK => ?_; simp [*, Low, isLoadB, isTameB, List.range_succ, List.range']) | with_reducible refine pwp_block ?_ | with_reducible refine pwp_skip ?_ | with_reducible refine pwp_ret ?_ | with_reducible refine pwp_exit ?_ | (with_reducible refine cond_t ?_ ?_; (focus (simp [*]; done))) | (with_reducible refine cond_f ?_ ?_; (focus (simp [*]; done))) | with_reducible refine then_n ?_ | with_reducible refine then_r ?_ | with_reducible refine then_e ?_ | with_reducible refine then_g ?_ | with_reducible refine inB_n ?_ | with_reducible refine inB_r ?_ | with_reducible refine inB_e ?_ | with_reducible refine inB_o rfl ?_ | with_reducible refine inB_g ?_ | with_reducible refine Leads.go (by assumption) ?_)
    refine PCalls.mono (hN _) ?_
    intro d3 H3 hd3
    rw [hd3.1, hd3.2]
    clear hd3
    try simp [*]
    repeat (first | with_reducible refine seq_k fun K hK => ?_ | (with_reducible refine region_k fun K hK => ?_; simp [*]) | (with_reducible refine region_drawT_k mixedO (by decide +kernel) fun K hK => ?_; simp [*]) | (with_reducible refine region_tame_a mixedO (by decide +kernel) fun K hK => ?_; simp [*, Low, isLoadB, isTameB, List.range_succ, List.range']) | with_reducible refine pwp_block ?_ | with_reducible refine pwp_skip ?_ | with_reducible refine pwp_ret ?_ | with_reducible refine pwp_exit ?_ | (with_reducible refine cond_t ?_ ?_; (focus (simp [*]; done))) | (with_reducible refine cond_f ?_ ?_; (focus (simp [*]; done))) | with_reducible refine then_n ?_ | with_reducible refine then_r ?_ | with_reducible refine then_e ?_ | with_reducible refine then_g ?_ | with_reducible refine inB_n ?_ | with_reducible refine inB_r ?_ | with_reducible refine inB_e ?_ | with_reducible refine inB_o rfl ?_ | with_reducible refine inB_g ?_ | with_reducible refine Leads.go (by assumption) ?_)
    refine PCalls.mono (hW _) ?_
    intro d3 H3 hd3
    rw [hd3.1, hd3.2]
    clear hd3
    try simp [*]
    try simp [*]
    repeat (first | with_reducible refine seq_k fun K hK => ?_ | (with_reducible refine region_k fun K hK => ?_; simp [*]) | (with_reducible refine region_drawT_k mixedO (by decide +kernel) fun K hK => ?_; simp [*]) | (with_reducible refine region_tame_a mixedO (by decide +kernel) fun K hK => ?_; simp [*, Low, isLoadB, isTameB, List.range_succ, List.range']) | with_reducible refine pwp_block ?_ | with_reducible refine pwp_skip ?_ | with_reducible refine pwp_ret ?_ | with_reducible refine pwp_exit ?_ | (with_reducible refine cond_t ?_ ?_; (focus (simp [*]; done))) | (with_reducible refine cond_f ?_ ?_; (focus (simp [*]; done))) | with_reducible refine then_n ?_ | with_reducible refine then_r ?_ | with_reducible refine then_e ?_ | with_reducible refine then_g ?_ | with_reducible refine inB_n ?_ | with_reducible refine inB_r ?_ | with_reducible refine inB_e ?_ | with_reducible refine inB_o rfl ?_ | with_reducible refine inB_g ?_ | with_reducible refine Leads.go (by assumption) ?_)
  case' some =>
    clear hok hq1 hq2
    simp only [arcsD] at hN
    have kd := Hold.mk (And.intro hdef hnn)
    clear hdef hnn
    repeat (first | with_reducible refine seq_k fun K hK => ?_ | (with_reducible refine region_k fun K hK => ?_; simp [*]) | (with_reducible refine region_drawT_k mixedO (by decide +kernel) fun K hK => ?_; simp [*]) | (with_reducible refine region_tame_a mixedO (by decide +kernel) fun K hK => ?_; simp [*, Low, isLoadB, isTameB, List.range_succ, List.range']) | with_reducible refine pwp_block ?_ | with_reducible refine pwp_skip ?_ | with_reducible refine pwp_ret ?_ | with_reducible refine pwp_exit ?_ | (with_reducible refine cond_t ?_ ?_; (focus (simp [*]; done))) | (with_reducible refine cond_f ?_ ?_; (focus (simp [*]; done))) | with_reducible refine then_n ?_ | with_reducible refine then_r ?_ | with_reducible refine then_e ?_ | with_reducible refine then_g ?_ | with_reducible refine inB_n ?_ | with_reducible refine inB_r ?_ | with_reducible refine inB_e ?_ | with_reducible refine inB_o rfl ?_ | with_reducible refine inB_g ?_ | with_reducible refine Leads.go (by assumption) ?_)
    refine PCalls.mono (hLo _) ?_
    intro d3 H3 hd3
    rw [hd3.1, hd3.2]
    clear hd3
    try simp [*]
    repeat (first | with_reducible refine seq_k fun K hK => ?_ | (with_reducible refine region_k fun K hK => ?_; simp [*]) | (with_reducible refine region_drawT_k mixedO (by decide +kernel) fun K hK => ?_; simp [*]) | (with_reducible refine region_tame_a mixedO (by decide +kernel) fun K hK => ?_; simp [*, Low, isLoadB, isTameB, List.range_succ, List.range']) | with_reducible refine pwp_block ?_ | with_reducible refine pwp_skip ?_ | with_reducible refine pwp_ret ?_ | with_reducible refine pwp_exit ?_ | (with_reducible refine cond_t ?_ ?_; (focus (simp [*]; done))) | (with_reducible refine cond_f ?_ ?_; (focus (simp [*]; done))) | with_reducible refine then_n ?_ | with_reducible refine then_r ?_ | with_reducible refine then_e ?_ | with_reducible refine then_g ?_ | with_reducible refine inB_n ?_ | with_reducible refine inB_r ?_ | with_reducible refine inB_e ?_ | with_reducible refine inB_o rfl ?_ | with_reducible refine inB_g ?_ | with_reducible refine Leads.go (by assumption) ?_)
    refine PCalls.mono (hSp _) ?_
    intro d3 H3 hd3
    rw [hd3.1, hd3.2]
    clear hd3
    try simp [*]
    repeat (first | with_reducible refine seq_k fun K hK => ?_ | (with_reducible refine region_k fun K hK => ?_; simp [*]) | (with_reducible refine region_drawT_k mixedO (by decide +kernel) fun K hK => ?_; simp [*]) | (with_reducible refine region_tame_a mixedO (by decide +kernel) fun K hK => ?_; simp [*, Low, isLoadB, isTameB, List.range_succ, List.range']) | with_reducible refine pwp_block ?_ | with_reducible refine pwp_skip ?_ | with_reducible refine pwp_ret ?_ | with_reducible refine pwp_exit ?_ | (with_reducible refine cond_t ?_ ?_; (focus (simp [*]; done))) | (with_reducible refine cond_f ?_ ?_; (focus (simp [*]; done))) | with_reducible refine then_n ?_ | with_reducible refine then_r ?_ | with_reducible refine then_e ?_ | with_reducible refine then_g ?_ | with_reducible refine inB_n ?_ | with_reducible refine inB_r ?_ | with_reducible refine inB_e ?_ | with_reducible refine inB_o rfl ?_ | with_reducible refine inB_g ?_ | with_reducible refine Leads.go (by assumption) ?_)
    refine PCalls.mono (hN _) ?_
    intro d3 H3 hd3
    rw [hd3.1, hd3.2]
    clear hd3
    try simp [*]
    repeat (first | with_reducible refine seq_k fun K hK => ?_ | (with_reducible refine region_k fun K hK => ?_; simp [*]) | (with_reducible refine region_drawT_k mixedO (by decide +kernel) fun K hK => ?_; simp [*]) | (with_reducible refine region_tame_a mixedO (by decide +kernel) fun K hK => ?_; simp [*, Low, isLoadB, isTameB, List.range_succ, List.range']) | with_reducible refine pwp_block ?_ | with_reducible refine pwp_skip ?_ | with_reducible refine pwp_ret ?_ | with_reducible refine pwp_exit ?_ | (with_reducible refine cond_t ?_ ?_; (focus (simp [*]; done))) | (with_reducible refine cond_f ?_ ?_; (focus (simp [*]; done))) | with_reducible refine then_n ?_ | with_reducible refine then_r ?_ | with_reducible refine then_e ?_ | with_reducible refine then_g ?_ | with_reducible refine inB_n ?_ | with_reducible refine inB_r ?_ | with_reducible refine inB_e ?_ | with_reducible refine inB_o rfl ?_ | with_reducible refine inB_g ?_ | with_reducible refine Leads.go (by assumption) ?_)
  all_goals
    clear hLo hSp hN hW
    refine pwp_for (ps.length) (fun k st => st.env.n = 96 ∧ st.df = [] ∧ st.env.get 5 = .slice 0 9 (sD p :: X) ∧ st.env.get 9 = .val (.int .i64 ((k + 1 : Nat) : Int)) ∧ (Hold ((ps.take k).all signsB = true) ∧ fz Tryd.prog 3 st.H (st.env.get 8) = some (frD 9 ((sortU (ps.take k)).map sD)))) ⟨by first | (simp; done) | (simp [*]; done), rfl, by first | (simp; done) | (simp [*]; done), by first | (simp; done) | (simp [*]; done), ?_⟩ ?_ ?_
    · exact ⟨⟨by simp⟩, by simp [*, sortU, frD]; rfl⟩
    · rintro k ⟨E, Hx, df⟩ hk ⟨en, edf, e5, e9, eP⟩
      simp only at en edf e5 e9
      subst edf
      have hki : (k : Int) < ((ps.length : Nat) : Int) := by omega
      have hkw := wrapSucc k (by omega)
      obtain ⟨⟨hall⟩, hfz⟩ := eP
      simp only at hfz
      refine pwp_freeze (k := 3) [(8, frD 9 ((sortU (ps.take k)).map sD))] (fun q hq => by rw [List.mem_singleton] at hq; subst hq; exact hfz) ?_
      rw [setAll_one]
      obtain ⟨g, t, hfr, ht⟩ := frD_at 9 (sortU (ps.take k))
      rw [hfr]
      have kf := Hold.mk hfr
      have f5 : (E.set 8 (.slice g t ((sortU (ps.take k)).map sD))).get 5 = .slice 0 9 (sD p :: X) := by simp [*]
      have f9 : (E.set 8 (.slice g t ((sortU (ps.take k)).map sD))).get 9 = .val (.int .i64 ((k + 1 : Nat) : Int)) := by simp [*]
      have f8 : (E.set 8 (.slice g t ((sortU (ps.take k)).map sD))).get 8 = .slice g t ((sortU (ps.take k)).map sD) := by simp [*]
      have fn : (E.set 8 (.slice g t ((sortU (ps.take k)).map sD))).n = 96 := by simp [*]
      generalize E.set 8 (.slice g t ((sortU (ps.take k)).map sD)) = E at *
      clear e5 e9 en hfz hfr
      obtain ⟨o, ho⟩ : ∃ o, ps[k]? = some o := ⟨_, List.getElem?_eq_getElem hk⟩
      have hol := kp.out o (by simp [List.mem_of_getElem? ho])
      have hXk : (sD p :: X)[k + 1]? = some (sD o) := by rw [← kX.out]; simp [ho]
      have hgd : (sD p :: X).getD (k + 1) .undef = sD o := by rw [List.getD, hXk]; rfl
      have hgl := get_of hXk
      have hWl : (sD p :: X).length = ps.length + 1 := by simp [hpm]
      obtain ⟨W, hW⟩ : ∃ W, sD p :: X = W := ⟨_, rfl⟩
      rw [hW] at hgd hgl hWl f5 hXk ⊢
      have kW := Hold.mk hW
      clear hW
      simp only [sD] at hgd hgl hXk
      have hsg := rsigns_spec o (by omega)
      have hat := all_take_succ' signsB ps k o ho
      rw [hall, Bool.true_and] at hat
      have hst := sortU_take ps k o ho
      have hsl := sortU_len (ps.take k)
      rw [List.length_take] at hsl
      have kk := Hold.mk (And.intro hat (And.intro hall (And.intro ho hst)))
      clear hat hall ho hst
      obtain ⟨k1, hk1⟩ : ∃ k1, k + 1 = k1 := ⟨_, rfl⟩
      rw [hk1] at hgd hgl f9 hXk
      have v1 : (k1 : Int) < (ps.length : Int) + 1 := by omega
      by_cases hsb : signsB o = true
      case neg =>
        have hsb' : signsB o = false := by simpa using hsb
        have hMn : M = none := by rw [kd.out.1, all_not' signsB ps k o kk.out.2.2.1 hsb']; rfl
        rw [kd.out.2 hMn]
        rw [hsb'] at hsg
        repeat (first | with_reducible refine seq_k fun K hK => ?_ | (with_reducible refine region_k fun K hK => ?_; simp [*]) | (with_reducible refine region_drawT_k mixedO (by decide +kernel) fun K hK => ?_; simp [*]) | (with_reducible refine region_tame_a mixedO (by decide +kernel) fun K hK => ?_; simp [*, Low, isLoadB, isTameB, List.range_succ, List.range']) | with_reducible refine pwp_block ?_ | with_reducible refine pwp_skip ?_ | with_reducible refine pwp_ret ?_ | with_reducible refine pwp_exit ?_ | (with_reducible refine cond_t ?_ ?_; (focus (simp [*]; done))) | (with_reducible refine cond_f ?_ ?_; (focus (simp [*]; done))) | with_reducible refine then_n ?_ | with_reducible refine then_r ?_ | with_reducible refine then_e ?_ | with_reducible refine then_g ?_ | with_reducible refine inB_n ?_ | with_reducible refine inB_r ?_ | with_reducible refine inB_e ?_ | with_reducible refine inB_o rfl ?_ | with_reducible refine inB_g ?_ | with_reducible refine Leads.go (by assumption) ?_)
        refine PCalls.mono (hsg _) ?_
        intro d3 H3 hd3
        rw [hd3.1, hd3.2]
        clear hd3
        try simp [*]
        try simp [*]
        repeat (first | with_reducible refine seq_k fun K hK => ?_ | (with_reducible refine region_k fun K hK => ?_; simp [*]) | (with_reducible refine region_drawT_k mixedO (by decide +kernel) fun K hK => ?_; simp [*]) | (with_reducible refine region_tame_a mixedO (by decide +kernel) fun K hK => ?_; simp [*, Low, isLoadB, isTameB, List.range_succ, List.range']) | with_reducible refine pwp_block ?_ | with_reducible refine pwp_skip ?_ | with_reducible refine pwp_ret ?_ | with_reducible refine pwp_exit ?_ | (with_reducible refine cond_t ?_ ?_; (focus (simp [*]; done))) | (with_reducible refine cond_f ?_ ?_; (focus (simp [*]; done))) | with_reducible refine then_n ?_ | with_reducible refine then_r ?_ | with_reducible refine then_e ?_ | with_reducible refine then_g ?_ | with_reducible refine inB_n ?_ | with_reducible refine inB_r ?_ | with_reducible refine inB_e ?_ | with_reducible refine inB_o rfl ?_ | with_reducible refine inB_g ?_ | with_reducible refine Leads.go (by assumption) ?_)
        simp [*]
        rfl
      rw [hsb] at hsg
      repeat (first | with_reducible refine seq_k fun K hK => ?_ | (with_reducible refine region_k fun K hK => ?_; simp [*]) | (with_reducible refine region_drawT_k mixedO (by decide +kernel) fun K hK => ?_; simp [*]) | (with_reducible refine region_tame_a mixedO (by decide +kernel) fun K hK => ?_; simp [*, Low, isLoadB, isTameB, List.range_succ, List.range']) | with_reducible refine pwp_block ?_ | with_reducible refine pwp_skip ?_ | with_reducible refine pwp_ret ?_ | with_reducible refine pwp_exit ?_ | (with_reducible refine cond_t ?_ ?_; (focus (simp [*]; done))) | (with_reducible refine cond_f ?_ ?_; (focus (simp [*]; done))) | with_reducible refine then_n ?_ | with_reducible refine then_r ?_ | with_reducible refine then_e ?_ | with_reducible refine then_g ?_ | with_reducible refine inB_n ?_ | with_reducible refine inB_r ?_ | with_reducible refine inB_e ?_ | with_reducible refine inB_o rfl ?_ | with_reducible refine inB_g ?_ | with_reducible refine Leads.go (by assumption) ?_)
      refine PCalls.mono (hsg _) ?_
      intro d3 H3 hd3
      rw [hd3.1, hd3.2]
      clear hd3
      try simp [*]
      repeat (first | with_reducible refine seq_k fun K hK => ?_ | (with_reducible refine region_k fun K hK => ?_; simp [*]) | (with_reducible refine region_drawT_k mixedO (by decide +kernel) fun K hK => ?_; simp [*]) | (with_reducible refine region_tame_a mixedO (by decide +kernel) fun K hK => ?_; simp [*, Low, isLoadB, isTameB, List.range_succ, List.range']) | with_reducible refine pwp_block ?_ | with_reducible refine pwp_skip ?_ | with_reducible refine pwp_ret ?_ | with_reducible refine pwp_exit ?_ | (with_reducible refine cond_t ?_ ?_; (focus (simp [*]; done))) | (with_reducible refine cond_f ?_ ?_; (focus (simp [*]; done))) | with_reducible refine then_n ?_ | with_reducible refine then_r ?_ | with_reducible refine then_e ?_ | with_reducible refine then_g ?_ | with_reducible refine inB_n ?_ | with_reducible refine inB_r ?_ | with_reducible refine inB_e ?_ | with_reducible refine inB_o rfl ?_ | with_reducible refine inB_g ?_ | with_reducible refine Leads.go (by assumption) ?_)
      obtain ⟨S, hS⟩ : ∃ S, sortU (ps.take k) = S := ⟨_, rfl⟩
      rw [hS] at f8 ht hsl kk
      have kS := Hold.mk hS
      clear hS
      have hpl := posOf_le o S
      have hplt := posOf_lt o S
      have hpat := posOf_at o S
      have hins := ins_eq o S
      have gS := fun j y (h : S[j]? = some y) => (show (S.map sD)[j]? = some (sD y) by rw [List.getElem?_map, h]; rfl)
      have hYl : (S.map sD).length = S.length := by simp
      obtain ⟨Y, hY⟩ : ∃ Y, S.map sD = Y := ⟨_, rfl⟩
      have kYe := Hold.mk hY
      have kY := Hold.mk (And.intro gS (And.intro hY (And.intro hplt (And.intro hpat hins))))
      rw [hY] at hYl f8 kY
      clear gS hY hplt hpat hins
      generalize hP : posOf o S = P at *
      generalize (⟨Tr.nil, Hx.nx, Hx.G⟩ : Heap) = H0 at *
      have w1 := wrapI (k1 : Int) (by omega) (by omega)
      refine pwp_for (P) (fun j st => st.env.n = 96 ∧ st.df = [] ∧ st.H = H0 ∧ st.env.get 5 = .slice 0 9 W ∧ st.env.get 8 = .slice g t Y ∧ st.env.get 9 = .val (.int .i64 (k1 : Nat)) ∧ st.env.get 10 = .val (.int .i64 (j : Nat))) ⟨by first | (simp; done) | (simp [*]; done), rfl, by first | rfl | simp, by first | (simp; done) | (simp [*]; done), by first | (simp; done) | (simp [*]; done), by first | (simp; done) | (simp [*]; done), by first | (simp; done) | (simp [*]; done)⟩ ?_ ?_
      · clear f5 f8 f9 fn
        rintro j ⟨E, Hx, df⟩ hj ⟨en, edf, eH, e5, e8, e9, e10⟩
        simp only at en edf eH e5 e8 e9 e10
        subst edf; replace eH := eH.symm; subst eH
        have hji : (j : Int) < ((P : Nat) : Int) := by omega
        have hjw := wrapSucc j (by omega)
        have hz1 : t = 9 := by rcases ht with h | h; exact h; rw [h] at hpl; simp at hpl; omega
        subst hz1
        obtain ⟨y, hy⟩ : ∃ y, S[j]? = some y := ⟨_, List.getElem?_eq_getElem (by omega)⟩
        have hlt : Op.bytesLess y o = true := by rw [bytesLess_eq]; simpa using kY.out.2.2.1 j y hj hy
        have y1 := kY.out.1 j y hy
        have y2 : Y.getD j .undef = sD y := by rw [List.getD, y1]; rfl
        have y3 := get_of y1
        simp only [sD] at y1 y2 y3
        have v2 : (j : Int) < (S.length : Int) := by omega
        have v3 : (k1 : Int) < (ps.length : Int) + 1 := by omega
        clear hy
        repeat (first | with_reducible refine seq_k fun K hK => ?_ | (with_reducible refine region_k fun K hK => ?_; simp [*]) | (with_reducible refine region_drawT_k mixedO (by decide +kernel) fun K hK => ?_; simp [*]) | (with_reducible refine region_tame_a mixedO (by decide +kernel) fun K hK => ?_; simp [*, Low, isLoadB, isTameB, List.range_succ, List.range']) | with_reducible refine pwp_block ?_ | with_reducible refine pwp_skip ?_ | with_reducible refine pwp_ret ?_ | with_reducible refine pwp_exit ?_ | (with_reducible refine cond_t ?_ ?_; (focus (simp [*]; done))) | (with_reducible refine cond_f ?_ ?_; (focus (simp [*]; done))) | with_reducible refine then_n ?_ | with_reducible refine then_r ?_ | with_reducible refine then_e ?_ | with_reducible refine then_g ?_ | with_reducible refine inB_n ?_ | with_reducible refine inB_r ?_ | with_reducible refine inB_e ?_ | with_reducible refine inB_o rfl ?_ | with_reducible refine inB_g ?_ | with_reducible refine Leads.go (by assumption) ?_)
        simp [*]
      · clear f5 f8 f9 fn
        rintro ⟨E, Hx, df⟩ ⟨en, edf, eH, e5, e8, e9, e10⟩
        simp only at en edf eH e5 e8 e9 e10
        subst edf; replace eH := eH.symm; subst eH
        have hins := kY.out.2.2.2.2
        have hkw2 : IntKind.i64.wrap ((k1 : Int) + 1) = ((k + 1 + 1 : Nat) : Int) := by rw [wrapI _ (by omega) (by omega)]; omega
        clear hk1
        have kh := Hold.mk (kk.out.1.trans hsb)
        by_cases hPl : P < S.length
        case' pos =>
          have hz1 : t = 9 := by rcases ht with h | h; exact h; rw [h] at hPl; simp at hPl
          subst hz1
          obtain ⟨y, hy⟩ : ∃ y, S[P]? = some y := ⟨_, List.getElem?_eq_getElem hPl⟩
          have hlt : Op.bytesLess y o = false := by rw [bytesLess_eq]; simpa using kY.out.2.2.2.1 y hy
          have y1 := kY.out.1 P y hy
          have y2 : Y.getD P .undef = sD y := by rw [List.getD, y1]; rfl
          have y3 := get_of y1
          simp only [sD] at y1 y2 y3
          have v2 : (P : Int) < (S.length : Int) := by omega
          by_cases hyo : y = o
          case' pos =>
            rw [hy, if_pos (by rw [hyo])] at hins
            have hso : sortU (ps.take (k + 1)) = S := by rw [kk.out.2.2.2, hins]
            clear hy hins
            subst hyo
            repeat (first | with_reducible refine seq_k fun K hK => ?_ | (with_reducible refine region_k fun K hK => ?_; simp [*]) | (with_reducible refine region_drawT_k mixedO (by decide +kernel) fun K hK => ?_; simp [*]) | (with_reducible refine region_tame_a mixedO (by decide +kernel) fun K hK => ?_; simp [*, Low, isLoadB, isTameB, List.range_succ, List.range']) | with_reducible refine pwp_block ?_ | with_reducible refine pwp_skip ?_ | with_reducible refine pwp_ret ?_ | with_reducible refine pwp_exit ?_ | (with_reducible refine cond_t ?_ ?_; (focus (simp [*]; done))) | (with_reducible refine cond_f ?_ ?_; (focus (simp [*]; done))) | with_reducible refine then_n ?_ | with_reducible refine then_r ?_ | with_reducible refine then_e ?_ | with_reducible refine then_g ?_ | with_reducible refine inB_n ?_ | with_reducible refine inB_r ?_ | with_reducible refine inB_e ?_ | with_reducible refine inB_o rfl ?_ | with_reducible refine inB_g ?_ | with_reducible refine Leads.go (by assumption) ?_)
            simp [*]
            refine ⟨⟨by simpa using kh.out⟩, ?_⟩
            have hff := kf.out
            rw [kS.out] at hff
            rw [← kYe.out, fz_slice, hff]
          case' neg =>
            rw [hy, if_neg (by simpa using hyo)] at hins
            clear hy
            repeat (first | with_reducible refine seq_k fun K hK => ?_ | (with_reducible refine region_k fun K hK => ?_; simp [*]) | (with_reducible refine region_drawT_k mixedO (by decide +kernel) fun K hK => ?_; simp [*]) | (with_reducible refine region_tame_a mixedO (by decide +kernel) fun K hK => ?_; simp [*, Low, isLoadB, isTameB, List.range_succ, List.range']) | with_reducible refine pwp_block ?_ | with_reducible refine pwp_skip ?_ | with_reducible refine pwp_ret ?_ | with_reducible refine pwp_exit ?_ | (with_reducible refine cond_t ?_ ?_; (focus (simp [*]; done))) | (with_reducible refine cond_f ?_ ?_; (focus (simp [*]; done))) | with_reducible refine then_n ?_ | with_reducible refine then_r ?_ | with_reducible refine then_e ?_ | with_reducible refine then_g ?_ | with_reducible refine inB_n ?_ | with_reducible refine inB_r ?_ | with_reducible refine inB_e ?_ | with_reducible refine inB_o rfl ?_ | with_reducible refine inB_g ?_ | with_reducible refine Leads.go (by assumption) ?_)
        case' neg =>
          have hPe : P = S.length := by omega
          have v2 : ¬ (P : Int) < (S.length : Int) := by omega
          rw [List.getElem?_eq_none (by omega), if_neg (by simp)] at hins
          clear hPe
          repeat (first | with_reducible refine seq_k fun K hK => ?_ | (with_reducible refine region_k fun K hK => ?_; simp [*]) | (with_reducible refine region_drawT_k mixedO (by decide +kernel) fun K hK => ?_; simp [*]) | (with_reducible refine region_tame_a mixedO (by decide +kernel) fun K hK => ?_; simp [*, Low, isLoadB, isTameB, List.range_succ, List.range']) | with_reducible refine pwp_block ?_ | with_reducible refine pwp_skip ?_ | with_reducible refine pwp_ret ?_ | with_reducible refine pwp_exit ?_ | (with_reducible refine cond_t ?_ ?_; (focus (simp [*]; done))) | (with_reducible refine cond_f ?_ ?_; (focus (simp [*]; done))) | with_reducible refine then_n ?_ | with_reducible refine then_r ?_ | with_reducible refine then_e ?_ | with_reducible refine then_g ?_ | with_reducible refine inB_n ?_ | with_reducible refine inB_r ?_ | with_reducible refine inB_e ?_ | with_reducible refine inB_o rfl ?_ | with_reducible refine inB_g ?_ | with_reducible refine Leads.go (by assumption) ?_)
        all_goals
          have hYe : Y = S.map sD := kYe.out.symm
          have hso : sortU (ps.take (k + 1)) = S.take P ++ o :: S.drop P := by rw [kk.out.2.2.2, hins]
          have hcut : Y.take P ++ [D.val (.string ⟨o.toArray⟩)] ++ Y.drop P = (S.take P ++ o :: S.drop P).map sD := by rw [hYe]; simp [List.map_take, List.map_drop]
          try have he9 : (9 = t ∨ Y = []) = True := eq_true (ht.imp Eq.symm (fun q => by rw [hYe, q]; rfl))
          have htl : Y.take S.length = Y := List.take_of_length_le (by omega)
          have hPle : (P : Int) ≤ (S.length : Int) := by omega
          have kso := Hold.mk hso
          clear hins hYe hso
          refine region_ordersX_k mixedO [8] [[1,2,3,5,6,7,11,12,13,0,4,8,9,10,14,15],[1,2,3,5,6,7,11,12,13,0,8,4,9,10,14,15],[1,2,3,5,6,7,11,12,13,8,0,4,9,10,14,15],[1,2,3,5,6,7,11,12,13,0,8,9,4,10,14,15],[1,2,3,5,6,7,11,12,13,8,0,9,4,10,14,15],[1,2,3,5,6,7,11,12,13,8,9,0,4,10,14,15]] (by decide +kernel) fun K1 hK1 pp hpp => ?_
          simp only [List.mem_cons, List.mem_nil_iff, or_false] at hpp
          rcases hpp with rfl | rfl | rfl | rfl | rfl | rfl
          · simp [*]
            refine oK_own (own_none H0 9) (by simp; omega) ?_
            intro r1 H1 o1 n1 f1
            rw [List.nil_append] at o1
            simp [*]
            refine oK_own (own_new o1 (.row 9 [D.val (.string ⟨o.toArray⟩)])) (by simp; omega) ?_
            intro r2 H2 o2 n2 f2
            simp [*]
            refine oK_own o2 (by simp; omega) ?_
            intro r3 H3 o3 n3 f3
            clear f1 f2 f3
            simp [*]
            rw [hcut] at o3
            clear o1 o2
            repeat (first | with_reducible refine seq_k fun K hK => ?_ | (with_reducible refine region_k fun K hK => ?_; simp [*]) | (with_reducible refine region_drawT_k mixedO (by decide +kernel) fun K hK => ?_; simp [*]) | (with_reducible refine region_tame_a mixedO (by decide +kernel) fun K hK => ?_; simp [*, Low, isLoadB, isTameB, List.range_succ, List.range']) | with_reducible refine pwp_block ?_ | with_reducible refine pwp_skip ?_ | with_reducible refine pwp_ret ?_ | with_reducible refine pwp_exit ?_ | (with_reducible refine cond_t ?_ ?_; (focus (simp [*]; done))) | (with_reducible refine cond_f ?_ ?_; (focus (simp [*]; done))) | with_reducible refine then_n ?_ | with_reducible refine then_r ?_ | with_reducible refine then_e ?_ | with_reducible refine then_g ?_ | with_reducible refine inB_n ?_ | with_reducible refine inB_r ?_ | with_reducible refine inB_e ?_ | with_reducible refine inB_o rfl ?_ | with_reducible refine inB_g ?_ | with_reducible refine Leads.go (by assumption) ?_)
            simp [*]
            refine ⟨⟨by simpa using kh.out⟩, ?_⟩
            have hz := own_fz (n := 2) (P := Tryd.prog) o3 (by simp) (fz_vals (fun s : By => .string ⟨s.toArray⟩) 1 _ _)
            rw [kso.out]; exact hz
          · simp [*]
            refine oK_own (own_none H0 9) (by simp; omega) ?_
            intro r1 H1 o1 n1 f1
            rw [List.nil_append] at o1
            simp [*]
            refine oK_own (own_new o1 (.row 9 [D.val (.string ⟨o.toArray⟩)])) (by simp; omega) ?_
            intro r2 H2 o2 n2 f2
            simp [*]
            refine oK_own o2 (by simp; omega) ?_
            intro r3 H3 o3 n3 f3
            clear f1 f2 f3
            simp [*]
            rw [hcut] at o3
            clear o1 o2
            repeat (first | with_reducible refine seq_k fun K hK => ?_ | (with_reducible refine region_k fun K hK => ?_; simp [*]) | (with_reducible refine region_drawT_k mixedO (by decide +kernel) fun K hK => ?_; simp [*]) | (with_reducible refine region_tame_a mixedO (by decide +kernel) fun K hK => ?_; simp [*, Low, isLoadB, isTameB, List.range_succ, List.range']) | with_reducible refine pwp_block ?_ | with_reducible refine pwp_skip ?_ | with_reducible refine pwp_ret ?_ | with_reducible refine pwp_exit ?_ | (with_reducible refine cond_t ?_ ?_; (focus (simp [*]; done))) | (with_reducible refine cond_f ?_ ?_; (focus (simp [*]; done))) | with_reducible refine then_n ?_ | with_reducible refine then_r ?_ | with_reducible refine then_e ?_ | with_reducible refine then_g ?_ | with_reducible refine inB_n ?_ | with_reducible refine inB_r ?_ | with_reducible refine inB_e ?_ | with_reducible refine inB_o rfl ?_ | with_reducible refine inB_g ?_ | with_reducible refine Leads.go (by assumption) ?_)
            simp [*]
            refine ⟨⟨by simpa using kh.out⟩, ?_⟩
            have hz := own_fz (n := 2) (P := Tryd.prog) o3 (by simp) (fz_vals (fun s : By => .string ⟨s.toArray⟩) 1 _ _)
            rw [kso.out]; exact hz
          · simp [*]
            refine oK_own (own_none H0 9) (by simp; omega) ?_
            intro r1 H1 o1 n1 f1
            rw [List.nil_append] at o1
            simp [*]
            refine oK_own (own_new o1 (.row 9 [D.val (.string ⟨o.toArray⟩)])) (by simp; omega) ?_
            intro r2 H2 o2 n2 f2
            simp [*]
            refine oK_own o2 (by simp; omega) ?_
            intro r3 H3 o3 n3 f3
            clear f1 f2 f3
            simp [*]
            rw [hcut] at o3
            clear o1 o2
            repeat (first | with_reducible refine seq_k fun K hK => ?_ | (with_reducible refine region_k fun K hK => ?_; simp [*]) | (with_reducible refine region_drawT_k mixedO (by decide +kernel) fun K hK => ?_; simp [*]) | (with_reducible refine region_tame_a mixedO (by decide +kernel) fun K hK => ?_; simp [*, Low, isLoadB, isTameB, List.range_succ, List.range']) | with_reducible refine pwp_block ?_ | with_reducible refine pwp_skip ?_ | with_reducible refine pwp_ret ?_ | with_reducible refine pwp_exit ?_ | (with_reducible refine cond_t ?_ ?_; (focus (simp [*]; done))) | (with_reducible refine cond_f ?_ ?_; (focus (simp [*]; done))) | with_reducible refine then_n ?_ | with_reducible refine then_r ?_ | with_reducible refine then_e ?_ | with_reducible refine then_g ?_ | with_reducible refine inB_n ?_ | with_reducible refine inB_r ?_ | with_reducible refine inB_e ?_ | with_reducible refine inB_o rfl ?_ | with_reducible refine inB_g ?_ | with_reducible refine Leads.go (by assumption) ?_)
            simp [*]
            refine ⟨⟨by simpa using kh.out⟩, ?_⟩
            have hz := own_fz (n := 2) (P := Tryd.prog) o3 (by simp) (fz_vals (fun s : By => .string ⟨s.toArray⟩) 1 _ _)
            rw [kso.out]; exact hz
          · simp [*]
            refine oK_own (own_new (own_none H0 9) (.row 9 [D.val (.string ⟨o.toArray⟩)])) (by simp; omega) ?_
            intro r1 H1 o1 n1 f1
            rw [List.nil_append] at o1
            have hb := (f1 (H0.nx + 1) (by simp) (fun e a n q => by injection q with q1; omega)).1
            rw [Heap.new_get, if_pos (by simp)] at hb
            have hbn : H0.nx + 1 < H1.nx := by simp at n1; omega
            clear f1
            simp [*]
            refine oK_own o1 (by simp; omega) ?_
            intro r2 H2 o2 n2 f2
            simp [*]
            refine oK_own o2 (by simp; omega) ?_
            intro r3 H3 o3 n3 f3
            clear f2 f3 hb
            simp [*]
            rw [hcut] at o3
            clear o1 o2
            repeat (first | with_reducible refine seq_k fun K hK => ?_ | (with_reducible refine region_k fun K hK => ?_; simp [*]) | (with_reducible refine region_drawT_k mixedO (by decide +kernel) fun K hK => ?_; simp [*]) | (with_reducible refine region_tame_a mixedO (by decide +kernel) fun K hK => ?_; simp [*, Low, isLoadB, isTameB, List.range_succ, List.range']) | with_reducible refine pwp_block ?_ | with_reducible refine pwp_skip ?_ | with_reducible refine pwp_ret ?_ | with_reducible refine pwp_exit ?_ | (with_reducible refine cond_t ?_ ?_; (focus (simp [*]; done))) | (with_reducible refine cond_f ?_ ?_; (focus (simp [*]; done))) | with_reducible refine then_n ?_ | with_reducible refine then_r ?_ | with_reducible refine then_e ?_ | with_reducible refine then_g ?_ | with_reducible refine inB_n ?_ | with_reducible refine inB_r ?_ | with_reducible refine inB_e ?_ | with_reducible refine inB_o rfl ?_ | with_reducible refine inB_g ?_ | with_reducible refine Leads.go (by assumption) ?_)
            simp [*]
            refine ⟨⟨by simpa using kh.out⟩, ?_⟩
            have hz := own_fz (n := 2) (P := Tryd.prog) o3 (by simp) (fz_vals (fun s : By => .string ⟨s.toArray⟩) 1 _ _)
            rw [kso.out]; exact hz
          · simp [*]
            refine oK_own (own_new (own_none H0 9) (.row 9 [D.val (.string ⟨o.toArray⟩)])) (by simp; omega) ?_
            intro r1 H1 o1 n1 f1
            rw [List.nil_append] at o1
            have hb := (f1 (H0.nx + 1) (by simp) (fun e a n q => by injection q with q1; omega)).1
            rw [Heap.new_get, if_pos (by simp)] at hb
            have hbn : H0.nx + 1 < H1.nx := by simp at n1; omega
            clear f1
            simp [*]
            refine oK_own o1 (by simp; omega) ?_
            intro r2 H2 o2 n2 f2
            simp [*]
            refine oK_own o2 (by simp; omega) ?_
            intro r3 H3 o3 n3 f3
            clear f2 f3 hb
            simp [*]
            rw [hcut] at o3
            clear o1 o2
            repeat (first | with_reducible refine seq_k fun K hK => ?_ | (with_reducible refine region_k fun K hK => ?_; simp [*]) | (with_reducible refine region_drawT_k mixedO (by decide +kernel) fun K hK => ?_; simp [*]) | (with_reducible refine region_tame_a mixedO (by decide +kernel) fun K hK => ?_; simp [*, Low, isLoadB, isTameB, List.range_succ, List.range']) | with_reducible refine pwp_block ?_ | with_reducible refine pwp_skip ?_ | with_reducible refine pwp_ret ?_ | with_reducible refine pwp_exit ?_ | (with_reducible refine cond_t ?_ ?_; (focus (simp [*]; done))) | (with_reducible refine cond_f ?_ ?_; (focus (simp [*]; done))) | with_reducible refine then_n ?_ | with_reducible refine then_r ?_ | with_reducible refine then_e ?_ | with_reducible refine then_g ?_ | with_reducible refine inB_n ?_ | with_reducible refine inB_r ?_ | with_reducible refine inB_e ?_ | with_reducible refine inB_o rfl ?_ | with_reducible refine inB_g ?_ | with_reducible refine Leads.go (by assumption) ?_)
            simp [*]
            refine ⟨⟨by simpa using kh.out⟩, ?_⟩
            have hz := own_fz (n := 2) (P := Tryd.prog) o3 (by simp) (fz_vals (fun s : By => .string ⟨s.toArray⟩) 1 _ _)
            rw [kso.out]; exact hz
          · simp [*]
            refine oK_own (own_none (H0.new (.row 9 [D.val (.string ⟨o.toArray⟩)])) 9) (by simp; omega) ?_
            intro r1 H1 o1 n1 f1
            rw [List.nil_append] at o1
            have hb := (f1 H0.nx (by simp; omega) (fun e a n q => by injection q with q1; omega)).1
            rw [Heap.new_get, if_neg (by simp), Heap.new_same] at hb
            clear f1
            simp [*]
            refine oK_own o1 (by simp; omega) ?_
            intro r2 H2 o2 n2 f2
            simp [*]
            refine oK_own o2 (by simp; omega) ?_
            intro r3 H3 o3 n3 f3
            clear f2 f3 hb
            simp [*]
            rw [hcut] at o3
            clear o1 o2
            repeat (first | with_reducible refine seq_k fun K hK => ?_ | (with_reducible refine region_k fun K hK => ?_; simp [*]) | (with_reducible refine region_drawT_k mixedO (by decide +kernel) fun K hK => ?_; simp [*]) | (with_reducible refine region_tame_a mixedO (by decide +kernel) fun K hK => ?_; simp [*, Low, isLoadB, isTameB, List.range_succ, List.range']) | with_reducible refine pwp_block ?_ | with_reducible refine pwp_skip ?_ | with_reducible refine pwp_ret ?_ | with_reducible refine pwp_exit ?_ | (with_reducible refine cond_t ?_ ?_; (focus (simp [*]; done))) | (with_reducible refine cond_f ?_ ?_; (focus (simp [*]; done))) | with_reducible refine then_n ?_ | with_reducible refine then_r ?_ | with_reducible refine then_e ?_ | with_reducible refine then_g ?_ | with_reducible refine inB_n ?_ | with_reducible refine inB_r ?_ | with_reducible refine inB_e ?_ | with_reducible refine inB_o rfl ?_ | with_reducible refine inB_g ?_ | with_reducible refine Leads.go (by assumption) ?_)
            simp [*]
            refine ⟨⟨by simpa using kh.out⟩, ?_⟩
            have hz := own_fz (n := 2) (P := Tryd.prog) o3 (by simp) (fz_vals (fun s : By => .string ⟨s.toArray⟩) 1 _ _)
            rw [kso.out]; exact hz
    · rintro ⟨E, Hx, df⟩ ⟨en, edf, e5, e9, eP⟩
      simp only at en edf e5 e9
      subst edf
      obtain ⟨⟨hall⟩, hfz⟩ := eP
      simp only [List.take_length] at hall hfz
      have hMs : M = some (p, sortU ps) := by rw [kd.out.1, if_pos hall]
      rw [hMs]
      obtain ⟨dd, e8⟩ : ∃ d, E.get 8 = d := ⟨_, rfl⟩
      rw [e8] at hfz
      have hz3 := fz_three (u := .string ⟨p.toArray⟩) (v := .bool true) hfz
      clear hfz
      repeat (first | with_reducible refine seq_k fun K hK => ?_ | (with_reducible refine region_k fun K hK => ?_; simp [*]) | (with_reducible refine region_drawT_k mixedO (by decide +kernel) fun K hK => ?_; simp [*]) | (with_reducible refine region_tame_a mixedO (by decide +kernel) fun K hK => ?_; simp [*, Low, isLoadB, isTameB, List.range_succ, List.range']) | with_reducible refine pwp_block ?_ | with_reducible refine pwp_skip ?_ | with_reducible refine pwp_ret ?_ | with_reducible refine pwp_exit ?_ | (with_reducible refine cond_t ?_ ?_; (focus (simp [*]; done))) | (with_reducible refine cond_f ?_ ?_; (focus (simp [*]; done))) | with_reducible refine then_n ?_ | with_reducible refine then_r ?_ | with_reducible refine then_e ?_ | with_reducible refine then_g ?_ | with_reducible refine inB_n ?_ | with_reducible refine inB_r ?_ | with_reducible refine inB_e ?_ | with_reducible refine inB_o rfl ?_ | with_reducible refine inB_g ?_ | with_reducible refine Leads.go (by assumption) ?_)
      simp [*]
      rfl
end Go.Pv
