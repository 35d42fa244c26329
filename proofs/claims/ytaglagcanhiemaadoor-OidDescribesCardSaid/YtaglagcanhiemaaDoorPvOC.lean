/- A part of the proof: functions of the program, walked, or what operations come to. -/
import Derived.Test.YtaglagcanhiemaaDoorPvOB
-- ZpvTameA ZpvDrawT
namespace Go.Pv
open Go.Proofs
attribute [-simp] eLen UInt8.ofNat_add

/-! ### The document's Put -/
set_option maxHeartbeats 4000000 in
set_option maxRecDepth 100000 in
theorem rPut_local (l : By) (hl : l.length ≤ 100000) : PCalls Tryd.prog 10 [sD l] (noHeap noG) fun d H' => fz Tryd.prog 4 H' d = some (putD 0 (putM l)) := by
  refine PCalls.of_pwp Tryd.call10 Tryd.func10 rfl (by simp [Tryd.ntmps10]) ?_
  rw [Tryd.ntmps10]
  have hA := rArcs_spec l hl
  unfold putM
  rcases hr : arcsM l with _ | L
  · rw [hr] at hA
    simp only [arcsD] at hA
    repeat (first | with_reducible refine seq_k fun K hK => ?_ | (with_reducible refine region_k fun K hK => ?_; simp [*]) | (with_reducible refine region_drawT_k mixedO (by decide +kernel) fun K hK => ?_; simp [*]) | (with_reducible refine region_tame_a mixedO (by decide +kernel) fun K hK => ?_; simp [*, Low, isLoadB, isTameB, List.range_succ, List.range']) | with_reducible refine pwp_block ?_ | with_reducible refine pwp_skip ?_ | with_reducible refine pwp_ret ?_ | with_reducible refine pwp_exit ?_ | (with_reducible refine cond_t ?_ ?_; (focus (simp [*]; done))) | (with_reducible refine cond_f ?_ ?_; (focus (simp [*]; done))) | with_reducible refine then_n ?_ | with_reducible refine then_r ?_ | with_reducible refine then_e ?_ | with_reducible refine then_g ?_ | with_reducible refine inB_n ?_ | with_reducible refine inB_r ?_ | with_reducible refine inB_e ?_ | with_reducible refine inB_o rfl ?_ | with_reducible refine inB_g ?_ | with_reducible refine Leads.go (by assumption) ?_)
    refine PCalls.mono (hA _) ?_
    intro d3 H3 hd3
    rw [hd3.1, hd3.2]
    clear hd3
    try simp [*]
    repeat (first | with_reducible refine seq_k fun K hK => ?_ | (with_reducible refine region_k fun K hK => ?_; simp [*]) | (with_reducible refine region_drawT_k mixedO (by decide +kernel) fun K hK => ?_; simp [*]) | (with_reducible refine region_tame_a mixedO (by decide +kernel) fun K hK => ?_; simp [*, Low, isLoadB, isTameB, List.range_succ, List.range']) | with_reducible refine pwp_block ?_ | with_reducible refine pwp_skip ?_ | with_reducible refine pwp_ret ?_ | with_reducible refine pwp_exit ?_ | (with_reducible refine cond_t ?_ ?_; (focus (simp [*]; done))) | (with_reducible refine cond_f ?_ ?_; (focus (simp [*]; done))) | with_reducible refine then_n ?_ | with_reducible refine then_r ?_ | with_reducible refine then_e ?_ | with_reducible refine then_g ?_ | with_reducible refine inB_n ?_ | with_reducible refine inB_r ?_ | with_reducible refine inB_e ?_ | with_reducible refine inB_o rfl ?_ | with_reducible refine inB_g ?_ | with_reducible refine Leads.go (by assumption) ?_)
    simp [*]
    rfl
  · obtain ⟨a, b, r, rfl, hr14, ha, hb, hrb⟩ := arcs_small hr
    rw [hr] at hA
    simp only [arcsD, List.map_cons] at hA
    have w1 := wrapI ((a : Int) * 40) (by omega) (by omega)
    have w2 : IntKind.i64.wrap ((a : Int) * 40 + (b : Int)) = ((a * 40 + b : Nat) : Int) := by rw [wrapI _ (by omega) (by omega)]; omega
    have l1 : (0 : Int) < (r.length : Int) + 1 + 1 := by omega
    have l2 : (1 : Int) < (r.length : Int) + 1 + 1 := by omega
    obtain ⟨n0, hn0⟩ : ∃ n0, a * 40 + b = n0 := ⟨_, rfl⟩
    rw [hn0] at w2
    have hs0 := sev_len n0 (by omega)
    have kp := Hold.mk (And.intro hrb hn0)
    clear hrb
    have h7 := rseven_spec n0 (by omega) (noHeap noG)
    clear hn0
    repeat (first | with_reducible refine seq_k fun K hK => ?_ | (with_reducible refine region_k fun K hK => ?_; simp [*]) | (with_reducible refine region_drawT_k mixedO (by decide +kernel) fun K hK => ?_; simp [*]) | (with_reducible refine region_tame_a mixedO (by decide +kernel) fun K hK => ?_; simp [*, Low, isLoadB, isTameB, List.range_succ, List.range']) | with_reducible refine pwp_block ?_ | with_reducible refine pwp_skip ?_ | with_reducible refine pwp_ret ?_ | with_reducible refine pwp_exit ?_ | (with_reducible refine cond_t ?_ ?_; (focus (simp [*]; done))) | (with_reducible refine cond_f ?_ ?_; (focus (simp [*]; done))) | with_reducible refine then_n ?_ | with_reducible refine then_r ?_ | with_reducible refine then_e ?_ | with_reducible refine then_g ?_ | with_reducible refine inB_n ?_ | with_reducible refine inB_r ?_ | with_reducible refine inB_e ?_ | with_reducible refine inB_o rfl ?_ | with_reducible refine inB_g ?_ | with_reducible refine Leads.go (by assumption) ?_)
    refine PCalls.mono (hA _) ?_
    intro d3 H3 hd3
    rw [hd3.1, hd3.2]
    clear hd3
    try simp [*]
    repeat (first | with_reducible refine seq_k fun K hK => ?_ | (with_reducible refine region_k fun K hK => ?_; simp [*]) | (with_reducible refine region_drawT_k mixedO (by decide +kernel) fun K hK => ?_; simp [*]) | (with_reducible refine region_tame_a mixedO (by decide +kernel) fun K hK => ?_; simp [*, Low, isLoadB, isTameB, List.range_succ, List.range']) | with_reducible refine pwp_block ?_ | with_reducible refine pwp_skip ?_ | with_reducible refine pwp_ret ?_ | with_reducible refine pwp_exit ?_ | (with_reducible refine cond_t ?_ ?_; (focus (simp [*]; done))) | (with_reducible refine cond_f ?_ ?_; (focus (simp [*]; done))) | with_reducible refine then_n ?_ | with_reducible refine then_r ?_ | with_reducible refine then_e ?_ | with_reducible refine then_g ?_ | with_reducible refine inB_n ?_ | with_reducible refine inB_r ?_ | with_reducible refine inB_e ?_ | with_reducible refine inB_o rfl ?_ | with_reducible refine inB_g ?_ | with_reducible refine Leads.go (by assumption) ?_)
    refine PCalls.mono h7 ?_
    rintro d H ⟨hG, hnx, hHG, hf⟩
    clear h7 hf w1 w2
    try simp [*]
    repeat (first | with_reducible refine seq_k fun K hK => ?_ | (with_reducible refine region_k fun K hK => ?_; simp [*]) | (with_reducible refine region_drawT_k mixedO (by decide +kernel) fun K hK => ?_; simp [*]) | (with_reducible refine region_tame_a mixedO (by decide +kernel) fun K hK => ?_; simp [*, Low, isLoadB, isTameB, List.range_succ, List.range']) | with_reducible refine pwp_block ?_ | with_reducible refine pwp_skip ?_ | with_reducible refine pwp_ret ?_ | with_reducible refine pwp_exit ?_ | (with_reducible refine cond_t ?_ ?_; (focus (simp [*]; done))) | (with_reducible refine cond_f ?_ ?_; (focus (simp [*]; done))) | with_reducible refine then_n ?_ | with_reducible refine then_r ?_ | with_reducible refine then_e ?_ | with_reducible refine then_g ?_ | with_reducible refine inB_n ?_ | with_reducible refine inB_r ?_ | with_reducible refine inB_e ?_ | with_reducible refine inB_o rfl ?_ | with_reducible refine inB_g ?_ | with_reducible refine Leads.go (by assumption) ?_)
    refine pwp_for (r.length) (fun k st => st.env.n = 38 ∧ st.df = [] ∧ st.env.get 4 = .slice 0 3 (natD a :: natD b :: r.map natD) ∧ st.env.get 7 = .val (.int .i64 ((k + 2 : Nat) : Int)) ∧ (PutInv (sev n0) r k st.H (st.env.get 6))) ⟨by first | (simp; done) | (simp [*]; done), rfl, by first | (simp; done) | (simp [*]; done), by first | (simp; done) | (simp [*]; done), ?_⟩ ?_ ?_
    · simp [*]
      unfold PutInv; simpa using hG
    · rintro k ⟨E, Hx, df⟩ hk ⟨en, edf, e4, e7, eP⟩
      simp only at en edf e4 e7
      subst edf
      have hki : (k : Int) < ((r.length : Nat) : Int) := by omega
      have hkw := wrapSucc k (by omega)
      obtain ⟨d6, e6⟩ : ∃ d, E.get 6 = d := ⟨_, rfl⟩
      simp only [e6, PutInv] at eP
      obtain ⟨n, hn⟩ : ∃ n, r[k]? = some n := ⟨_, List.getElem?_eq_getElem hk⟩
      have hn10 := kp.out.1 n (List.mem_of_getElem? hn)
      obtain ⟨W, hW⟩ : ∃ W, natD a :: natD b :: r.map natD = W := ⟨_, rfl⟩
      have hWl : W.length = r.length + 2 := by rw [← hW]; simp
      have hWk : W[k + 2]? = some (natD n) := by rw [← hW]; simp [hn]
      have hgd : W.getD (k + 2) .undef = natD n := by rw [List.getD, hWk]; rfl
      have hgl := get_of hWk
      rw [hW] at e4 ⊢
      have hfl := flat_len r kp.out.1 k
      have hfs := flat_succ r k n hn
      have h7 := rseven_spec n (by omega) Hx
      have hsl := sev_len n (by omega)
      simp only [natD] at hgd hgl hWk
      have kW := Hold.mk hW
      clear hG hW
      obtain ⟨k2, hk2⟩ : ∃ k2, k + 2 = k2 := ⟨_, rfl⟩
      rw [hk2] at e7 hgd hgl hWk
      have v1 : (k2 : Int) < (r.length : Int) + 2 := by omega
      have v2 : IntKind.i64.wrap ((k2 : Int) + 1) = ((k + 1 + 2 : Nat) : Int) := by rw [wrapI _ (by omega) (by omega)]; omega
      repeat (first | with_reducible refine seq_k fun K hK => ?_ | (with_reducible refine region_k fun K hK => ?_; simp [*]) | (with_reducible refine region_drawT_k mixedO (by decide +kernel) fun K hK => ?_; simp [*]) | (with_reducible refine region_tame_a mixedO (by decide +kernel) fun K hK => ?_; simp [*, Low, isLoadB, isTameB, List.range_succ, List.range']) | with_reducible refine pwp_block ?_ | with_reducible refine pwp_skip ?_ | with_reducible refine pwp_ret ?_ | with_reducible refine pwp_exit ?_ | (with_reducible refine cond_t ?_ ?_; (focus (simp [*]; done))) | (with_reducible refine cond_f ?_ ?_; (focus (simp [*]; done))) | with_reducible refine then_n ?_ | with_reducible refine then_r ?_ | with_reducible refine then_e ?_ | with_reducible refine then_g ?_ | with_reducible refine inB_n ?_ | with_reducible refine inB_r ?_ | with_reducible refine inB_e ?_ | with_reducible refine inB_o rfl ?_ | with_reducible refine inB_g ?_ | with_reducible refine Leads.go (by assumption) ?_)
      refine PCalls.mono h7 ?_
      rintro ds H2 ⟨hG2, hnx2, hHG2, hf2⟩
      have eP2 := eP.keep hnx2 (fun j hj => (hf2 j hj).1)
      obtain ⟨j, hj, rfl, hgj⟩ := hG2.row (by simp [sev_ne])
      clear h7 hf2 eP hG2
      have hsn : ¬ sev n = [] := sev_ne n
      rw [List.length_map]
      try simp [*]
      have hb1 : ((sev n0 ++ (r.take k).flatMap sev).map byD).length ≤ 100000 := by rw [List.length_map, List.length_append]; omega
      have hb2 : (List.take (sev n).length (List.map byD (sev n))).length ≤ 9 := by rw [List.length_take, List.length_map]; omega
      refine oK_app eP2 ?_ ?_ ?_
      · simp [*]
      · omega
      intro d5 H5 hG5 hn5 hH5 hf5
      try simp [*]
      have htk : List.take (sev n).length (List.map byD (sev n)) = List.map byD (sev n) := List.take_of_length_le (by simp)
      repeat (first | with_reducible refine seq_k fun K hK => ?_ | (with_reducible refine region_k fun K hK => ?_; simp [*]) | (with_reducible refine region_drawT_k mixedO (by decide +kernel) fun K hK => ?_; simp [*]) | (with_reducible refine region_tame_a mixedO (by decide +kernel) fun K hK => ?_; simp [*, Low, isLoadB, isTameB, List.range_succ, List.range']) | with_reducible refine pwp_block ?_ | with_reducible refine pwp_skip ?_ | with_reducible refine pwp_ret ?_ | with_reducible refine pwp_exit ?_ | (with_reducible refine cond_t ?_ ?_; (focus (simp [*]; done))) | (with_reducible refine cond_f ?_ ?_; (focus (simp [*]; done))) | with_reducible refine then_n ?_ | with_reducible refine then_r ?_ | with_reducible refine then_e ?_ | with_reducible refine then_g ?_ | with_reducible refine inB_n ?_ | with_reducible refine inB_r ?_ | with_reducible refine inB_e ?_ | with_reducible refine inB_o rfl ?_ | with_reducible refine inB_g ?_ | with_reducible refine Leads.go (by assumption) ?_)
      simp [*]
      unfold PutInv
      rw [hfs]
      simpa [htk] using hG5
    · rintro ⟨E, Hx, df⟩ ⟨en, edf, e4, e7, eP⟩
      simp only at en edf e4 e7
      subst edf
      obtain ⟨d6, e6⟩ : ∃ d, E.get 6 = d := ⟨_, rfl⟩
      simp only [e6, PutInv, List.take_length] at eP
      have hfz := fz_two (v := .int .i64 0) (eP.fz (n := 2) (fz_vals (P := Tryd.prog) (fun c : UInt8 => .int .u8 (c.toNat : Nat)) 1 _ _))
      have v1 : ¬ (r.length : Int) + 2 < (r.length : Int) + 1 + 1 := by omega
      repeat (first | with_reducible refine seq_k fun K hK => ?_ | (with_reducible refine region_k fun K hK => ?_; simp [*]) | (with_reducible refine region_drawT_k mixedO (by decide +kernel) fun K hK => ?_; simp [*]) | (with_reducible refine region_tame_a mixedO (by decide +kernel) fun K hK => ?_; simp [*, Low, isLoadB, isTameB, List.range_succ, List.range']) | with_reducible refine pwp_block ?_ | with_reducible refine pwp_skip ?_ | with_reducible refine pwp_ret ?_ | with_reducible refine pwp_exit ?_ | (with_reducible refine cond_t ?_ ?_; (focus (simp [*]; done))) | (with_reducible refine cond_f ?_ ?_; (focus (simp [*]; done))) | with_reducible refine then_n ?_ | with_reducible refine then_r ?_ | with_reducible refine then_e ?_ | with_reducible refine then_g ?_ | with_reducible refine inB_n ?_ | with_reducible refine inB_r ?_ | with_reducible refine inB_e ?_ | with_reducible refine inB_o rfl ?_ | with_reducible refine inB_g ?_ | with_reducible refine Leads.go (by assumption) ?_)
      simp [*]
      have he : enc (a :: b :: r) = sev n0 ++ r.flatMap sev := by rw [enc, kp.out.2]
      rw [frD, if_neg (by simp [sev_ne]), putD, he, List.map_append]
      rfl
theorem rPut_spec (l : By) (hl : l.length ≤ 100000) (H : Heap) : PCalls Tryd.prog 10 [sD l] H fun d H' => d = putD 0 (putM l) ∧ H' = H :=
  PCalls.liftG (PCalls.frozen (rPut_local l hl)) (fun d hd => by
    simp only [List.mem_cons, List.mem_nil_iff, or_false] at hd
    subst hd; exact .val _) (pure_put _ _) H
/-! ### The document's Read -/
theorem mul128 (n m : Nat) (hn : n ≤ 20000000000000) (hm : m < 128) : IntKind.i64.wrap (((n * 128 : Nat) : Int) + (m : Int)) = ((n * 128 + m : Nat) : Int) := by
  rw [wrapI _ (by omega) (by omega)]; omega
set_option maxHeartbeats 4000000 in
set_option maxRecDepth 100000 in
theorem rRead_local (g e : Nat) (bs : By) (he : e = 5 ∨ bs = []) (hl : bs.length ≤ 100000) : PCalls Tryd.prog 11 [.slice g e (bs.map byD)] (noHeap noG) fun d _ => d = readD (rreadM bs) := by
  refine PCalls.of_pwp Tryd.call11 Tryd.func11 rfl (by simp [Tryd.ntmps11]) ?_
  rw [Tryd.ntmps11]
  have hml : (bs.map byD).length = bs.length := by simp
  have hdef : rreadM bs = match rrLoop [] 0 bs with
    | some s => if putM s = some bs then some s else none
    | none => none := rfl
  obtain ⟨B, hB⟩ : ∃ B, bs.map byD = B := ⟨_, rfl⟩
  have kB := Hold.mk hB
  rw [hB] at hml ⊢
  obtain ⟨R, hR⟩ : ∃ R, rrLoop [] 0 bs = R := ⟨_, rfl⟩
  obtain ⟨M, hM⟩ : ∃ M, rreadM bs = M := ⟨_, rfl⟩
  rw [hR, hM] at hdef
  rw [hM]
  have kD := Hold.mk (And.intro hdef hB)
  clear hdef hB
  repeat (first | with_reducible refine seq_k fun K hK => ?_ | (with_reducible refine region_k fun K hK => ?_; simp [*]) | (with_reducible refine region_drawT_k mixedO (by decide +kernel) fun K hK => ?_; simp [*]) | (with_reducible refine region_tame_a mixedO (by decide +kernel) fun K hK => ?_; simp [*, Low, isLoadB, isTameB, List.range_succ, List.range']) | with_reducible refine pwp_block ?_ | with_reducible refine pwp_skip ?_ | with_reducible refine pwp_ret ?_ | with_reducible refine pwp_exit ?_ | (with_reducible refine cond_t ?_ ?_; (focus (simp [*]; done))) | (with_reducible refine cond_f ?_ ?_; (focus (simp [*]; done))) | with_reducible refine then_n ?_ | with_reducible refine then_r ?_ | with_reducible refine then_e ?_ | with_reducible refine then_g ?_ | with_reducible refine inB_n ?_ | with_reducible refine inB_r ?_ | with_reducible refine inB_e ?_ | with_reducible refine inB_o rfl ?_ | with_reducible refine inB_g ?_ | with_reducible refine Leads.go (by assumption) ?_)
  refine pwp_loop (fun m st => ∃ k s n, m = bs.length - k ∧ k ≤ bs.length ∧ st.env.n = 72 ∧ st.df = [] ∧ st.env.get 0 = .slice g e B ∧ st.env.get 4 = sD s ∧ st.env.get 5 = natD n ∧ st.env.get 6 = natD k ∧ rrLoop s n (bs.drop k) = R ∧ n ≤ 20000000000000 ∧ s.length ≤ 400) bs.length ⟨0, [], 0, by omega, by omega, by simp, rfl, by simp, by simp, by simp, by simp, by simpa using hR, by omega, by simp⟩ ?_
  rintro m ⟨E, H, df⟩ ⟨k, s, n, rfl, hk, en, edf, e0, e4, e5, e6, hrr, hn, hs⟩
  simp only at en edf e0 e4 e5 e6
  subst edf
  simp only [natD, sD] at e4 e5 e6
  by_cases hend : k = bs.length ∨ 200 ≤ s.length
  · have hRs : R = some s := by
      rw [← hrr]
      rcases hend with h | h
      · rw [h, List.drop_eq_nil_of_le (Nat.le_refl _)]; rfl
      · cases hd : bs.drop k with
        | nil => rfl
        | cons c cs => rw [rrLoop, if_pos h]
    have hM2 : M = if putM s = some bs then some s else none := by rw [kD.out.1, hRs]
    have hP := rPut_spec s (by omega)
    have kM := Hold.mk hM2
    clear hRs hM2 hrr hR kD
    by_cases h1 : (k : Int) < (bs.length : Int)
    case' pos =>
      have h2 : ¬ (s.length : Int) < 200 := by omega
      clear hend
      repeat (first | with_reducible refine seq_k fun K hK => ?_ | (with_reducible refine region_k fun K hK => ?_; simp [*]) | (with_reducible refine region_drawT_k mixedO (by decide +kernel) fun K hK => ?_; simp [*]) | (with_reducible refine region_tame_a mixedO (by decide +kernel) fun K hK => ?_; simp [*, Low, isLoadB, isTameB, List.range_succ, List.range']) | with_reducible refine pwp_block ?_ | with_reducible refine pwp_skip ?_ | with_reducible refine pwp_ret ?_ | with_reducible refine pwp_exit ?_ | (with_reducible refine cond_t ?_ ?_; (focus (simp [*]; done))) | (with_reducible refine cond_f ?_ ?_; (focus (simp [*]; done))) | with_reducible refine then_n ?_ | with_reducible refine then_r ?_ | with_reducible refine then_e ?_ | with_reducible refine then_g ?_ | with_reducible refine inB_n ?_ | with_reducible refine inB_r ?_ | with_reducible refine inB_e ?_ | with_reducible refine inB_o rfl ?_ | with_reducible refine inB_g ?_ | with_reducible refine Leads.go (by assumption) ?_)
    case' neg =>
      clear hend
      repeat (first | with_reducible refine seq_k fun K hK => ?_ | (with_reducible refine region_k fun K hK => ?_; simp [*]) | (with_reducible refine region_drawT_k mixedO (by decide +kernel) fun K hK => ?_; simp [*]) | (with_reducible refine region_tame_a mixedO (by decide +kernel) fun K hK => ?_; simp [*, Low, isLoadB, isTameB, List.range_succ, List.range']) | with_reducible refine pwp_block ?_ | with_reducible refine pwp_skip ?_ | with_reducible refine pwp_ret ?_ | with_reducible refine pwp_exit ?_ | (with_reducible refine cond_t ?_ ?_; (focus (simp [*]; done))) | (with_reducible refine cond_f ?_ ?_; (focus (simp [*]; done))) | with_reducible refine then_n ?_ | with_reducible refine then_r ?_ | with_reducible refine then_e ?_ | with_reducible refine then_g ?_ | with_reducible refine inB_n ?_ | with_reducible refine inB_r ?_ | with_reducible refine inB_e ?_ | with_reducible refine inB_o rfl ?_ | with_reducible refine inB_g ?_ | with_reducible refine Leads.go (by assumption) ?_)
    all_goals
      rcases hpm : putM s with _ | b2
      · have hrn : M = none := by rw [kM.out, hpm]; rfl
        rw [hpm] at hP
        simp only [putD] at hP
        clear kM hpm
        refine PCalls.mono (hP _) ?_
        intro d3 H3 hd3
        rw [hd3.1, hd3.2]
        clear hd3
        try simp [*]
        repeat (first | with_reducible refine seq_k fun K hK => ?_ | (with_reducible refine region_k fun K hK => ?_; simp [*]) | (with_reducible refine region_drawT_k mixedO (by decide +kernel) fun K hK => ?_; simp [*]) | (with_reducible refine region_tame_a mixedO (by decide +kernel) fun K hK => ?_; simp [*, Low, isLoadB, isTameB, List.range_succ, List.range']) | with_reducible refine pwp_block ?_ | with_reducible refine pwp_skip ?_ | with_reducible refine pwp_ret ?_ | with_reducible refine pwp_exit ?_ | (with_reducible refine cond_t ?_ ?_; (focus (simp [*]; done))) | (with_reducible refine cond_f ?_ ?_; (focus (simp [*]; done))) | with_reducible refine then_n ?_ | with_reducible refine then_r ?_ | with_reducible refine then_e ?_ | with_reducible refine then_g ?_ | with_reducible refine inB_n ?_ | with_reducible refine inB_r ?_ | with_reducible refine inB_e ?_ | with_reducible refine inB_o rfl ?_ | with_reducible refine inB_g ?_ | with_reducible refine Leads.go (by assumption) ?_)
        simp [*, readD]
      · rw [hpm] at hP
        simp only [putD] at hP
        have h1' : (5 = e ∨ B = []) = True := eq_true (by rcases he with rfl | h; exact .inl rfl; exact .inr (by rw [← kB.out, h]; rfl))
        have hEs := eToStr_by bs
        rw [kB.out] at hEs
        have hE2 := eToStr_by b2
        by_cases hbb : b2 = bs
        · have hrn : M = some s := by rw [kM.out, hpm, if_pos (by rw [hbb])]
          clear kM hpm
          subst hbb
          refine PCalls.mono (hP _) ?_
          intro d3 H3 hd3
          rw [hd3.1, hd3.2]
          clear hd3
          try simp [*]
          try simp [*]
          repeat (first | with_reducible refine seq_k fun K hK => ?_ | (with_reducible refine region_k fun K hK => ?_; simp [*]) | (with_reducible refine region_drawT_k mixedO (by decide +kernel) fun K hK => ?_; simp [*]) | (with_reducible refine region_tame_a mixedO (by decide +kernel) fun K hK => ?_; simp [*, Low, isLoadB, isTameB, List.range_succ, List.range']) | with_reducible refine pwp_block ?_ | with_reducible refine pwp_skip ?_ | with_reducible refine pwp_ret ?_ | with_reducible refine pwp_exit ?_ | (with_reducible refine cond_t ?_ ?_; (focus (simp [*]; done))) | (with_reducible refine cond_f ?_ ?_; (focus (simp [*]; done))) | with_reducible refine then_n ?_ | with_reducible refine then_r ?_ | with_reducible refine then_e ?_ | with_reducible refine then_g ?_ | with_reducible refine inB_n ?_ | with_reducible refine inB_r ?_ | with_reducible refine inB_e ?_ | with_reducible refine inB_o rfl ?_ | with_reducible refine inB_g ?_ | with_reducible refine Leads.go (by assumption) ?_)
          simp [*, readD]
        · have hrn : M = none := by rw [kM.out, hpm, if_neg (by simpa using hbb)]
          clear kM hpm
          refine PCalls.mono (hP _) ?_
          intro d3 H3 hd3
          rw [hd3.1, hd3.2]
          clear hd3
          try simp [*]
          try simp [*]
          repeat (first | with_reducible refine seq_k fun K hK => ?_ | (with_reducible refine region_k fun K hK => ?_; simp [*]) | (with_reducible refine region_drawT_k mixedO (by decide +kernel) fun K hK => ?_; simp [*]) | (with_reducible refine region_tame_a mixedO (by decide +kernel) fun K hK => ?_; simp [*, Low, isLoadB, isTameB, List.range_succ, List.range']) | with_reducible refine pwp_block ?_ | with_reducible refine pwp_skip ?_ | with_reducible refine pwp_ret ?_ | with_reducible refine pwp_exit ?_ | (with_reducible refine cond_t ?_ ?_; (focus (simp [*]; done))) | (with_reducible refine cond_f ?_ ?_; (focus (simp [*]; done))) | with_reducible refine then_n ?_ | with_reducible refine then_r ?_ | with_reducible refine then_e ?_ | with_reducible refine then_g ?_ | with_reducible refine inB_n ?_ | with_reducible refine inB_r ?_ | with_reducible refine inB_e ?_ | with_reducible refine inB_o rfl ?_ | with_reducible refine inB_g ?_ | with_reducible refine Leads.go (by assumption) ?_)
          simp [*, readD]
  · have hk1 : k < bs.length := by omega
    have h200 : ¬ 200 ≤ s.length := fun q => hend (.inr q)
    clear hend
    obtain ⟨c, hc⟩ : ∃ c, bs[k]? = some c := ⟨_, List.getElem?_eq_getElem hk1⟩
    have hdr : bs.drop k = c :: bs.drop (k + 1) := by
      rw [List.drop_eq_getElem_cons hk1]
      rw [List.getElem?_eq_getElem hk1] at hc
      rw [Option.some.inj hc]
    rw [hdr, rrLoop, if_neg h200] at hrr
    have h1 : (k : Int) < (bs.length : Int) := by omega
    have h2 : (s.length : Int) < 200 := by omega
    by_cases hbig : 100000000000 < (n : Int)
    · rw [if_pos (by omega)] at hrr
      have hrn : M = none := by rw [kD.out.1, ← hrr]
      clear hrr hR kD
      repeat (first | with_reducible refine seq_k fun K hK => ?_ | (with_reducible refine region_k fun K hK => ?_; simp [*]) | (with_reducible refine region_drawT_k mixedO (by decide +kernel) fun K hK => ?_; simp [*]) | (with_reducible refine region_tame_a mixedO (by decide +kernel) fun K hK => ?_; simp [*, Low, isLoadB, isTameB, List.range_succ, List.range']) | with_reducible refine pwp_block ?_ | with_reducible refine pwp_skip ?_ | with_reducible refine pwp_ret ?_ | with_reducible refine pwp_exit ?_ | (with_reducible refine cond_t ?_ ?_; (focus (simp [*]; done))) | (with_reducible refine cond_f ?_ ?_; (focus (simp [*]; done))) | with_reducible refine then_n ?_ | with_reducible refine then_r ?_ | with_reducible refine then_e ?_ | with_reducible refine then_g ?_ | with_reducible refine inB_n ?_ | with_reducible refine inB_r ?_ | with_reducible refine inB_e ?_ | with_reducible refine inB_o rfl ?_ | with_reducible refine inB_g ?_ | with_reducible refine Leads.go (by assumption) ?_)
      simp [*, readD]
    · rw [if_neg (by omega)] at hrr
      have hk0 : e = 5 := by
        rcases he with h | h
        · exact h
        · subst h; simp at hk1
      subst hk0
      have hBk : B[k]? = some (byD c) := by rw [← kB.out, List.getElem?_map, hc]; rfl
      have hgd : B.getD k .undef = byD c := by rw [List.getD, hBk]; rfl
      have hgl := get_of hBk
      simp only [byD] at hgd hgl
      have hcl := toNat_lt c
      have a1 : IntKind.i64.wrap ((n : Int) * 128) = ((n * 128 : Nat) : Int) := by rw [wrapI _ (by omega) (by omega)]; omega
      have a2 : (c.toNat : Int).tmod 128 = ((c.toNat % 128 : Nat) : Int) := tmodN c.toNat 128
      have a3 := wrapI (c.toNat : Int) (by omega) (by omega)
      have a4 := mul128 n (c.toNat % 128) hn (by omega)
      have hkw := wrapSucc k (by omega)
      have hwl : n * 128 + c.toNat % 128 ≤ 20000000000000 := by omega
      simp only [rrStep] at hrr
      generalize hmm : c.toNat % 128 = m at *
      obtain ⟨w, hw⟩ : ∃ w, n * 128 + m = w := ⟨_, rfl⟩
      obtain ⟨nn, hnn⟩ : ∃ nn, n * 128 = nn := ⟨_, rfl⟩
      simp only [hw] at hrr a4 hwl
      simp only [hnn] at a1 a4
      have kc := Hold.mk (And.intro hc (And.intro hmm (And.intro hw hnn)))
      clear hc hdr hmm hw hnn kD hR
      by_cases hb3 : 127 < (c.toNat : Int)
      · rw [if_neg (by omega)] at hrr
        have kr := Hold.mk hrr
        clear hrr
        repeat (first | with_reducible refine seq_k fun K hK => ?_ | (with_reducible refine region_k fun K hK => ?_; simp [*]) | (with_reducible refine region_drawT_k mixedO (by decide +kernel) fun K hK => ?_; simp [*]) | (with_reducible refine region_tame_a mixedO (by decide +kernel) fun K hK => ?_; simp [*, Low, isLoadB, isTameB, List.range_succ, List.range']) | with_reducible refine pwp_block ?_ | with_reducible refine pwp_skip ?_ | with_reducible refine pwp_ret ?_ | with_reducible refine pwp_exit ?_ | (with_reducible refine cond_t ?_ ?_; (focus (simp [*]; done))) | (with_reducible refine cond_f ?_ ?_; (focus (simp [*]; done))) | with_reducible refine then_n ?_ | with_reducible refine then_r ?_ | with_reducible refine then_e ?_ | with_reducible refine then_g ?_ | with_reducible refine inB_n ?_ | with_reducible refine inB_r ?_ | with_reducible refine inB_e ?_ | with_reducible refine inB_o rfl ?_ | with_reducible refine inB_g ?_ | with_reducible refine Leads.go (by assumption) ?_)
        exact ⟨bs.length - (k + 1), by omega, k + 1, s, w, rfl, by omega, by simp [*], rfl, by simp [*], by simp [*], by simp [*], by simp [*], kr.out, hwl, hs⟩
      · rw [if_pos (by omega)] at hrr
        by_cases hs0 : s = []
        · rw [if_pos hs0] at hrr
          subst hs0
          have hD1 := rDigits_local (min (w / 40) 2) (by omega)
          have hD2 := rDigits_local (w - min (w / 40) 2 * 40) (by omega)
          have hdl1 : (digits (min (w / 40) 2)).length ≤ 19 := digits_len 18 _ (by omega)
          have hdl2 : (digits (w - min (w / 40) 2 * 40)).length ≤ 19 := digits_len 18 _ (by omega)
          have q1 : (w : Int).tdiv 40 = ((w / 40 : Nat) : Int) := tdivN w 40
          have q2 := wrapI ((w / 40 : Nat) : Int) (by omega) (by omega)
          have q4 : IntKind.i64.wrap ((40 : Int) * ((min (w / 40) 2 : Nat) : Int)) = ((min (w / 40) 2 * 40 : Nat) : Int) := by rw [wrapI _ (by omega) (by omega)]; omega
          have q5 : IntKind.i64.wrap ((w : Int) - ((min (w / 40) 2 * 40 : Nat) : Int)) = ((w - min (w / 40) 2 * 40 : Nat) : Int) := by rw [wrapI _ (by omega) (by omega)]; omega
          have kw := Hold.mk hwl
          by_cases h3 : 2 < ((w / 40 : Nat) : Int)
          · have hr2 : min (w / 40) 2 = 2 := by omega
            rw [hr2] at hrr hD1 hD2 hdl1 hdl2 q5
            have q6 : IntKind.i64.wrap 80 = 80 := by decide
            have q7 : IntKind.i64.wrap ((w : Int) - 80) = ((w - 2 * 40 : Nat) : Int) := by rw [wrapI _ (by omega) (by omega)]; omega
            obtain ⟨z, hz⟩ : ∃ z, w - 2 * 40 = z := ⟨_, rfl⟩
            rw [hz] at hrr hD2 hdl2 q7
            have kr := Hold.mk hrr
            have h3n : 2 < w / 40 := by omega
            clear hrr q4 q5 hr2 hwl
            generalize w / 40 = a at *
            generalize hd1 : digits 2 = x1 at *
            have hb1 : x1.length + 1 ≤ 9223372036854775807 := by omega
            have hb2 : x1.length + (1 + (digits z).length) ≤ 9223372036854775807 := by omega
            have hb3' : x1.length + 1 + (digits z).length ≤ 9223372036854775807 := by omega
            repeat (first | with_reducible refine seq_k fun K hK => ?_ | (with_reducible refine region_k fun K hK => ?_; simp [*]) | (with_reducible refine region_drawT_k mixedO (by decide +kernel) fun K hK => ?_; simp [*]) | (with_reducible refine region_tame_a mixedO (by decide +kernel) fun K hK => ?_; simp [*, Low, isLoadB, isTameB, List.range_succ, List.range']) | with_reducible refine pwp_block ?_ | with_reducible refine pwp_skip ?_ | with_reducible refine pwp_ret ?_ | with_reducible refine pwp_exit ?_ | (with_reducible refine cond_t ?_ ?_; (focus (simp [*]; done))) | (with_reducible refine cond_f ?_ ?_; (focus (simp [*]; done))) | with_reducible refine then_n ?_ | with_reducible refine then_r ?_ | with_reducible refine then_e ?_ | with_reducible refine then_g ?_ | with_reducible refine inB_n ?_ | with_reducible refine inB_r ?_ | with_reducible refine inB_e ?_ | with_reducible refine inB_o rfl ?_ | with_reducible refine inB_g ?_ | with_reducible refine Leads.go (by assumption) ?_)
            refine PCalls.mono (hD1 _) ?_
            intro d3 H3 hd3
            rw [hd3.1, hd3.2]
            clear hd3
            try simp [*]
            repeat (first | with_reducible refine seq_k fun K hK => ?_ | (with_reducible refine region_k fun K hK => ?_; simp [*]) | (with_reducible refine region_drawT_k mixedO (by decide +kernel) fun K hK => ?_; simp [*]) | (with_reducible refine region_tame_a mixedO (by decide +kernel) fun K hK => ?_; simp [*, Low, isLoadB, isTameB, List.range_succ, List.range']) | with_reducible refine pwp_block ?_ | with_reducible refine pwp_skip ?_ | with_reducible refine pwp_ret ?_ | with_reducible refine pwp_exit ?_ | (with_reducible refine cond_t ?_ ?_; (focus (simp [*]; done))) | (with_reducible refine cond_f ?_ ?_; (focus (simp [*]; done))) | with_reducible refine then_n ?_ | with_reducible refine then_r ?_ | with_reducible refine then_e ?_ | with_reducible refine then_g ?_ | with_reducible refine inB_n ?_ | with_reducible refine inB_r ?_ | with_reducible refine inB_e ?_ | with_reducible refine inB_o rfl ?_ | with_reducible refine inB_g ?_ | with_reducible refine Leads.go (by assumption) ?_)
            refine PCalls.mono (hD2 _) ?_
            intro d3 H3 hd3
            rw [hd3.1, hd3.2]
            clear hd3
            try simp [*]
            try simp [*]
            repeat (first | with_reducible refine seq_k fun K hK => ?_ | (with_reducible refine region_k fun K hK => ?_; simp [*]) | (with_reducible refine region_drawT_k mixedO (by decide +kernel) fun K hK => ?_; simp [*]) | (with_reducible refine region_tame_a mixedO (by decide +kernel) fun K hK => ?_; simp [*, Low, isLoadB, isTameB, List.range_succ, List.range']) | with_reducible refine pwp_block ?_ | with_reducible refine pwp_skip ?_ | with_reducible refine pwp_ret ?_ | with_reducible refine pwp_exit ?_ | (with_reducible refine cond_t ?_ ?_; (focus (simp [*]; done))) | (with_reducible refine cond_f ?_ ?_; (focus (simp [*]; done))) | with_reducible refine then_n ?_ | with_reducible refine then_r ?_ | with_reducible refine then_e ?_ | with_reducible refine then_g ?_ | with_reducible refine inB_n ?_ | with_reducible refine inB_r ?_ | with_reducible refine inB_e ?_ | with_reducible refine inB_o rfl ?_ | with_reducible refine inB_g ?_ | with_reducible refine Leads.go (by assumption) ?_)
            exact ⟨bs.length - (k + 1), by omega, k + 1, x1 ++ 46 :: digits z, 0, rfl, by omega, by simp [*], rfl, by simp [*], by simp [*], by simp [*], by simp [*], kr.out, by omega, by simp; omega⟩
          · have hr2 : min (w / 40) 2 = w / 40 := by omega
            rw [hr2] at hrr hD1 hD2 hdl1 hdl2 q4 q5
            have q4' : IntKind.i64.wrap ((40 : Int) * ((w / 40 : Nat) : Int)) = ((w / 40 * 40 : Nat) : Int) := q4
            obtain ⟨z, hz⟩ : ∃ z, w - w / 40 * 40 = z := ⟨_, rfl⟩
            rw [hz] at hrr hD2 hdl2 q5
            obtain ⟨a, ha⟩ : ∃ a, w / 40 = a := ⟨_, rfl⟩
            rw [ha] at hrr hD1 hdl1 q1 q2 q4' q5 h3
            obtain ⟨a40, ha40⟩ : ∃ a40, a * 40 = a40 := ⟨_, rfl⟩
            rw [ha40] at q4' q5
            have kr := Hold.mk hrr
            have h3n : ¬ 2 < a := by omega
            clear hrr q4 hr2 hwl ha ha40 hz
            have hb1 : (digits a).length + 1 ≤ 9223372036854775807 := by omega
            have hb2 : (digits a).length + (1 + (digits z).length) ≤ 9223372036854775807 := by omega
            have hb3' : (digits a).length + 1 + (digits z).length ≤ 9223372036854775807 := by omega
            repeat (first | with_reducible refine seq_k fun K hK => ?_ | (with_reducible refine region_k fun K hK => ?_; simp [*]) | (with_reducible refine region_drawT_k mixedO (by decide +kernel) fun K hK => ?_; simp [*]) | (with_reducible refine region_tame_a mixedO (by decide +kernel) fun K hK => ?_; simp [*, Low, isLoadB, isTameB, List.range_succ, List.range']) | with_reducible refine pwp_block ?_ | with_reducible refine pwp_skip ?_ | with_reducible refine pwp_ret ?_ | with_reducible refine pwp_exit ?_ | (with_reducible refine cond_t ?_ ?_; (focus (simp [*]; done))) | (with_reducible refine cond_f ?_ ?_; (focus (simp [*]; done))) | with_reducible refine then_n ?_ | with_reducible refine then_r ?_ | with_reducible refine then_e ?_ | with_reducible refine then_g ?_ | with_reducible refine inB_n ?_ | with_reducible refine inB_r ?_ | with_reducible refine inB_e ?_ | with_reducible refine inB_o rfl ?_ | with_reducible refine inB_g ?_ | with_reducible refine Leads.go (by assumption) ?_)
            refine PCalls.mono (hD1 _) ?_
            intro d3 H3 hd3
            rw [hd3.1, hd3.2]
            clear hd3
            try simp [*]
            repeat (first | with_reducible refine seq_k fun K hK => ?_ | (with_reducible refine region_k fun K hK => ?_; simp [*]) | (with_reducible refine region_drawT_k mixedO (by decide +kernel) fun K hK => ?_; simp [*]) | (with_reducible refine region_tame_a mixedO (by decide +kernel) fun K hK => ?_; simp [*, Low, isLoadB, isTameB, List.range_succ, List.range']) | with_reducible refine pwp_block ?_ | with_reducible refine pwp_skip ?_ | with_reducible refine pwp_ret ?_ | with_reducible refine pwp_exit ?_ | (with_reducible refine cond_t ?_ ?_; (focus (simp [*]; done))) | (with_reducible refine cond_f ?_ ?_; (focus (simp [*]; done))) | with_reducible refine then_n ?_ | with_reducible refine then_r ?_ | with_reducible refine then_e ?_ | with_reducible refine then_g ?_ | with_reducible refine inB_n ?_ | with_reducible refine inB_r ?_ | with_reducible refine inB_e ?_ | with_reducible refine inB_o rfl ?_ | with_reducible refine inB_g ?_ | with_reducible refine Leads.go (by assumption) ?_)
            refine PCalls.mono (hD2 _) ?_
            intro d3 H3 hd3
            rw [hd3.1, hd3.2]
            clear hd3
            try simp [*]
            try simp [*]
            repeat (first | with_reducible refine seq_k fun K hK => ?_ | (with_reducible refine region_k fun K hK => ?_; simp [*]) | (with_reducible refine region_drawT_k mixedO (by decide +kernel) fun K hK => ?_; simp [*]) | (with_reducible refine region_tame_a mixedO (by decide +kernel) fun K hK => ?_; simp [*, Low, isLoadB, isTameB, List.range_succ, List.range']) | with_reducible refine pwp_block ?_ | with_reducible refine pwp_skip ?_ | with_reducible refine pwp_ret ?_ | with_reducible refine pwp_exit ?_ | (with_reducible refine cond_t ?_ ?_; (focus (simp [*]; done))) | (with_reducible refine cond_f ?_ ?_; (focus (simp [*]; done))) | with_reducible refine then_n ?_ | with_reducible refine then_r ?_ | with_reducible refine then_e ?_ | with_reducible refine then_g ?_ | with_reducible refine inB_n ?_ | with_reducible refine inB_r ?_ | with_reducible refine inB_e ?_ | with_reducible refine inB_o rfl ?_ | with_reducible refine inB_g ?_ | with_reducible refine Leads.go (by assumption) ?_)
            exact ⟨bs.length - (k + 1), by omega, k + 1, digits a ++ 46 :: digits z, 0, rfl, by omega, by simp [*], rfl, by simp [*], by simp [*], by simp [*], by simp [*], kr.out, by omega, by simp; omega⟩
        · rw [if_neg hs0] at hrr
          have hD1 := rDigits_local w (by omega)
          have hdl1 : (digits w).length ≤ 19 := digits_len 18 _ (by omega)
          have kr := Hold.mk hrr
          clear hrr
          have hb1 : s.length + 1 ≤ 9223372036854775807 := by omega
          have hb2 : s.length + 1 + (digits w).length ≤ 9223372036854775807 := by omega
          repeat (first | with_reducible refine seq_k fun K hK => ?_ | (with_reducible refine region_k fun K hK => ?_; simp [*]) | (with_reducible refine region_drawT_k mixedO (by decide +kernel) fun K hK => ?_; simp [*]) | (with_reducible refine region_tame_a mixedO (by decide +kernel) fun K hK => ?_; simp [*, Low, isLoadB, isTameB, List.range_succ, List.range']) | with_reducible refine pwp_block ?_ | with_reducible refine pwp_skip ?_ | with_reducible refine pwp_ret ?_ | with_reducible refine pwp_exit ?_ | (with_reducible refine cond_t ?_ ?_; (focus (simp [*]; done))) | (with_reducible refine cond_f ?_ ?_; (focus (simp [*]; done))) | with_reducible refine then_n ?_ | with_reducible refine then_r ?_ | with_reducible refine then_e ?_ | with_reducible refine then_g ?_ | with_reducible refine inB_n ?_ | with_reducible refine inB_r ?_ | with_reducible refine inB_e ?_ | with_reducible refine inB_o rfl ?_ | with_reducible refine inB_g ?_ | with_reducible refine Leads.go (by assumption) ?_)
          refine PCalls.mono (hD1 _) ?_
          intro d3 H3 hd3
          rw [hd3.1, hd3.2]
          clear hd3
          try simp [*]
          try simp [*]
          repeat (first | with_reducible refine seq_k fun K hK => ?_ | (with_reducible refine region_k fun K hK => ?_; simp [*]) | (with_reducible refine region_drawT_k mixedO (by decide +kernel) fun K hK => ?_; simp [*]) | (with_reducible refine region_tame_a mixedO (by decide +kernel) fun K hK => ?_; simp [*, Low, isLoadB, isTameB, List.range_succ, List.range']) | with_reducible refine pwp_block ?_ | with_reducible refine pwp_skip ?_ | with_reducible refine pwp_ret ?_ | with_reducible refine pwp_exit ?_ | (with_reducible refine cond_t ?_ ?_; (focus (simp [*]; done))) | (with_reducible refine cond_f ?_ ?_; (focus (simp [*]; done))) | with_reducible refine then_n ?_ | with_reducible refine then_r ?_ | with_reducible refine then_e ?_ | with_reducible refine then_g ?_ | with_reducible refine inB_n ?_ | with_reducible refine inB_r ?_ | with_reducible refine inB_e ?_ | with_reducible refine inB_o rfl ?_ | with_reducible refine inB_g ?_ | with_reducible refine Leads.go (by assumption) ?_)
          exact ⟨bs.length - (k + 1), by omega, k + 1, s ++ 46 :: digits w, 0, rfl, by omega, by simp [*], rfl, by simp [*], by simp [*], by simp [*], by simp [*], kr.out, by omega, by simp; omega⟩
theorem rRead_spec (g e : Nat) (bs : By) (he : e = 5 ∨ bs = []) (hl : bs.length ≤ 100000) (H : Heap) : PCalls Tryd.prog 11 [.slice g e (bs.map byD)] H fun d H' => d = readD (readM bs) ∧ H' = H := by
  rw [← rreadM_eq]
  exact PCalls.liftG (rRead_local g e bs he hl) (fun d hd => by
    simp only [List.mem_cons, List.mem_nil_iff, or_false] at hd
    subst hd; exact pure_vals (fun c : UInt8 => .int .u8 (c.toNat : Nat)) _ _ bs) (by
    rcases rreadM bs with _ | s <;> (refine .tup _ fun d hd => ?_) <;> (simp only [List.mem_cons, List.mem_nil_iff, or_false] at hd; rcases hd with rfl | rfl <;> exact .val _)) H
end Go.Pv
