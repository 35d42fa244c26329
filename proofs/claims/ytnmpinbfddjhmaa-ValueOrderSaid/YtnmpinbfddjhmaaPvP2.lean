/- A part of the proof: functions of the program, walked, or what operations come to. -/
import Derived.Test.YtnmpinbfddjhmaaPvP1
import Derived.Test.YtnmpinbfddjhmaaPvN3
-- ZpvTameA ZpvDrawT
namespace Go.Pv
open Go.Proofs
attribute [-simp] eLen UInt8.ofNat_add

/-! ### strings.Split by one sign -/
theorem toU8 (c : UInt8) : ((c.toNat : Int)).toNat.toUInt8 = c := by simp
set_option maxRecDepth 100000 in
theorem CountString_spec (l : By) (c : UInt8) (H : Heap) : PCalls Try.prog 98 [sD l, .val (.int .u8 (c.toNat : Nat))] H fun d H' => d = .val (.int .i64 ((l.count c : Nat) : Int)) ∧ H' = H := by
  refine (prOf_sound (x := (98, .count)) ⟨_, Try.func98, by kernel_rfl, by kernel_rfl, by kernel_rfl, by kernel_rfl⟩ rfl).mono ?_
  rintro d H' ⟨rfl, rfl⟩
  rw [toU8]
  exact ⟨rfl, rfl⟩
set_option maxRecDepth 100000 in
theorem IndexByteString_spec (l : By) (c : UInt8) (H : Heap) : PCalls Try.prog 26 [sD l, .val (.int .u8 (c.toNat : Nat))] H fun d H' => d = .val (.int .i64 (Lib.indexByte l c)) ∧ H' = H := by
  refine (prOf_sound (x := (26, .indexByte)) ⟨_, Try.func26, by kernel_rfl, by kernel_rfl, by kernel_rfl, by kernel_rfl⟩ rfl).mono ?_
  rintro d H' ⟨rfl, rfl⟩
  rw [toU8]
  exact ⟨rfl, rfl⟩
set_option maxHeartbeats 4000000 in
set_option maxRecDepth 100000 in
theorem slIndexByte_spec (l : By) (c : UInt8) (H : Heap) : PCalls Try.prog 22 [sD l, .val (.int .u8 (c.toNat : Nat))] H fun d H' => d = .val (.int .i64 (Lib.indexByte l c)) ∧ H' = H := by
  refine PCalls.of_pwp Try.call22 Try.func22 rfl (by simp [Try.ntmps22]) ?_
  rw [Try.ntmps22]
  repeat (first | with_reducible refine seq_k fun K hK => ?_ | (with_reducible refine region_k fun K hK => ?_; simp [*]) | (with_reducible refine region_drawT_k mixedO (by decide +kernel) fun K hK => ?_; simp [*]) | (with_reducible refine region_tame_a mixedO (by decide +kernel) fun K hK => ?_; simp [*, Low, isLoadB, isTameB, List.range_succ, List.range']) | with_reducible refine pwp_block ?_ | with_reducible refine pwp_skip ?_ | with_reducible refine pwp_ret ?_ | with_reducible refine pwp_exit ?_ | (with_reducible refine cond_t ?_ ?_; (focus (simp [*]; done))) | (with_reducible refine cond_f ?_ ?_; (focus (simp [*]; done))) | with_reducible refine then_n ?_ | with_reducible refine then_r ?_ | with_reducible refine then_e ?_ | with_reducible refine then_g ?_ | with_reducible refine inB_n ?_ | with_reducible refine inB_r ?_ | with_reducible refine inB_e ?_ | with_reducible refine inB_o rfl ?_ | with_reducible refine inB_g ?_ | with_reducible refine Leads.go (by assumption) ?_)
  refine PCalls.mono (IndexByteString_spec l c _) ?_
  intro d3 H3 hd3
  rw [hd3.1, hd3.2]
  clear hd3
  try simp [*]
  repeat (first | with_reducible refine seq_k fun K hK => ?_ | (with_reducible refine region_k fun K hK => ?_; simp [*]) | (with_reducible refine region_drawT_k mixedO (by decide +kernel) fun K hK => ?_; simp [*]) | (with_reducible refine region_tame_a mixedO (by decide +kernel) fun K hK => ?_; simp [*, Low, isLoadB, isTameB, List.range_succ, List.range']) | with_reducible refine pwp_block ?_ | with_reducible refine pwp_skip ?_ | with_reducible refine pwp_ret ?_ | with_reducible refine pwp_exit ?_ | (with_reducible refine cond_t ?_ ?_; (focus (simp [*]; done))) | (with_reducible refine cond_f ?_ ?_; (focus (simp [*]; done))) | with_reducible refine then_n ?_ | with_reducible refine then_r ?_ | with_reducible refine then_e ?_ | with_reducible refine then_g ?_ | with_reducible refine inB_n ?_ | with_reducible refine inB_r ?_ | with_reducible refine inB_e ?_ | with_reducible refine inB_o rfl ?_ | with_reducible refine inB_g ?_ | with_reducible refine Leads.go (by assumption) ?_)
  simp [*]
set_option maxHeartbeats 4000000 in
set_option maxRecDepth 100000 in
theorem slIndex1_spec (l : By) (c : UInt8) (H : Heap) : PCalls Try.prog 18 [sD l, sD [c]] H fun d H' => d = .val (.int .i64 (Lib.indexByte l c)) ∧ H' = H := by
  refine PCalls.of_pwp Try.call18 Try.func18 rfl (by simp [Try.ntmps18]) ?_
  rw [Try.ntmps18]
  have bc : byteAt [c] 0 = (c.toNat : Int) := rfl
  by_cases he : [c] = l
  · subst he
    repeat (first | with_reducible refine seq_k fun K hK => ?_ | (with_reducible refine region_k fun K hK => ?_; simp [*]) | (with_reducible refine region_drawT_k mixedO (by decide +kernel) fun K hK => ?_; simp [*]) | (with_reducible refine region_tame_a mixedO (by decide +kernel) fun K hK => ?_; simp [*, Low, isLoadB, isTameB, List.range_succ, List.range']) | with_reducible refine pwp_block ?_ | with_reducible refine pwp_skip ?_ | with_reducible refine pwp_ret ?_ | with_reducible refine pwp_exit ?_ | (with_reducible refine cond_t ?_ ?_; (focus (simp [*]; done))) | (with_reducible refine cond_f ?_ ?_; (focus (simp [*]; done))) | with_reducible refine then_n ?_ | with_reducible refine then_r ?_ | with_reducible refine then_e ?_ | with_reducible refine then_g ?_ | with_reducible refine inB_n ?_ | with_reducible refine inB_r ?_ | with_reducible refine inB_e ?_ | with_reducible refine inB_o rfl ?_ | with_reducible refine inB_g ?_ | with_reducible refine Leads.go (by assumption) ?_)
    simp [Lib.indexByte]
  · repeat (first | with_reducible refine seq_k fun K hK => ?_ | (with_reducible refine region_k fun K hK => ?_; simp [*]) | (with_reducible refine region_drawT_k mixedO (by decide +kernel) fun K hK => ?_; simp [*]) | (with_reducible refine region_tame_a mixedO (by decide +kernel) fun K hK => ?_; simp [*, Low, isLoadB, isTameB, List.range_succ, List.range']) | with_reducible refine pwp_block ?_ | with_reducible refine pwp_skip ?_ | with_reducible refine pwp_ret ?_ | with_reducible refine pwp_exit ?_ | (with_reducible refine cond_t ?_ ?_; (focus (simp [*]; done))) | (with_reducible refine cond_f ?_ ?_; (focus (simp [*]; done))) | with_reducible refine then_n ?_ | with_reducible refine then_r ?_ | with_reducible refine then_e ?_ | with_reducible refine then_g ?_ | with_reducible refine inB_n ?_ | with_reducible refine inB_r ?_ | with_reducible refine inB_e ?_ | with_reducible refine inB_o rfl ?_ | with_reducible refine inB_g ?_ | with_reducible refine Leads.go (by assumption) ?_)
    refine PCalls.mono (slIndexByte_spec l c _) ?_
    intro d3 H3 hd3
    rw [hd3.1, hd3.2]
    clear hd3
    try simp [*]
    repeat (first | with_reducible refine seq_k fun K hK => ?_ | (with_reducible refine region_k fun K hK => ?_; simp [*]) | (with_reducible refine region_drawT_k mixedO (by decide +kernel) fun K hK => ?_; simp [*]) | (with_reducible refine region_tame_a mixedO (by decide +kernel) fun K hK => ?_; simp [*, Low, isLoadB, isTameB, List.range_succ, List.range']) | with_reducible refine pwp_block ?_ | with_reducible refine pwp_skip ?_ | with_reducible refine pwp_ret ?_ | with_reducible refine pwp_exit ?_ | (with_reducible refine cond_t ?_ ?_; (focus (simp [*]; done))) | (with_reducible refine cond_f ?_ ?_; (focus (simp [*]; done))) | with_reducible refine then_n ?_ | with_reducible refine then_r ?_ | with_reducible refine then_e ?_ | with_reducible refine then_g ?_ | with_reducible refine inB_n ?_ | with_reducible refine inB_r ?_ | with_reducible refine inB_e ?_ | with_reducible refine inB_o rfl ?_ | with_reducible refine inB_g ?_ | with_reducible refine Leads.go (by assumption) ?_)
    simp [*]
set_option maxHeartbeats 4000000 in
set_option maxRecDepth 100000 in
theorem Index1_spec (l : By) (c : UInt8) (H : Heap) : PCalls Try.prog 13 [sD l, sD [c]] H fun d H' => d = .val (.int .i64 (Lib.indexByte l c)) ∧ H' = H := by
  refine PCalls.of_pwp Try.call13 Try.func13 rfl (by simp [Try.ntmps13]) ?_
  rw [Try.ntmps13]
  repeat (first | with_reducible refine seq_k fun K hK => ?_ | (with_reducible refine region_k fun K hK => ?_; simp [*]) | (with_reducible refine region_drawT_k mixedO (by decide +kernel) fun K hK => ?_; simp [*]) | (with_reducible refine region_tame_a mixedO (by decide +kernel) fun K hK => ?_; simp [*, Low, isLoadB, isTameB, List.range_succ, List.range']) | with_reducible refine pwp_block ?_ | with_reducible refine pwp_skip ?_ | with_reducible refine pwp_ret ?_ | with_reducible refine pwp_exit ?_ | (with_reducible refine cond_t ?_ ?_; (focus (simp [*]; done))) | (with_reducible refine cond_f ?_ ?_; (focus (simp [*]; done))) | with_reducible refine then_n ?_ | with_reducible refine then_r ?_ | with_reducible refine then_e ?_ | with_reducible refine then_g ?_ | with_reducible refine inB_n ?_ | with_reducible refine inB_r ?_ | with_reducible refine inB_e ?_ | with_reducible refine inB_o rfl ?_ | with_reducible refine inB_g ?_ | with_reducible refine Leads.go (by assumption) ?_)
  refine PCalls.mono (slIndex1_spec l c _) ?_
  intro d3 H3 hd3
  rw [hd3.1, hd3.2]
  clear hd3
  try simp [*]
  repeat (first | with_reducible refine seq_k fun K hK => ?_ | (with_reducible refine region_k fun K hK => ?_; simp [*]) | (with_reducible refine region_drawT_k mixedO (by decide +kernel) fun K hK => ?_; simp [*]) | (with_reducible refine region_tame_a mixedO (by decide +kernel) fun K hK => ?_; simp [*, Low, isLoadB, isTameB, List.range_succ, List.range']) | with_reducible refine pwp_block ?_ | with_reducible refine pwp_skip ?_ | with_reducible refine pwp_ret ?_ | with_reducible refine pwp_exit ?_ | (with_reducible refine cond_t ?_ ?_; (focus (simp [*]; done))) | (with_reducible refine cond_f ?_ ?_; (focus (simp [*]; done))) | with_reducible refine then_n ?_ | with_reducible refine then_r ?_ | with_reducible refine then_e ?_ | with_reducible refine then_g ?_ | with_reducible refine inB_n ?_ | with_reducible refine inB_r ?_ | with_reducible refine inB_e ?_ | with_reducible refine inB_o rfl ?_ | with_reducible refine inB_g ?_ | with_reducible refine Leads.go (by assumption) ?_)
  simp [*]
set_option maxHeartbeats 4000000 in
set_option maxRecDepth 100000 in
theorem Count1_spec (l : By) (c : UInt8) (H : Heap) : PCalls Try.prog 95 [sD l, sD [c]] H fun d H' => d = .val (.int .i64 ((l.count c : Nat) : Int)) ∧ H' = H := by
  refine PCalls.of_pwp Try.call95 Try.func95 rfl (by simp [Try.ntmps95]) ?_
  rw [Try.ntmps95]
  have bc : byteAt [c] 0 = (c.toNat : Int) := rfl
  repeat (first | with_reducible refine seq_k fun K hK => ?_ | (with_reducible refine region_k fun K hK => ?_; simp [*]) | (with_reducible refine region_drawT_k mixedO (by decide +kernel) fun K hK => ?_; simp [*]) | (with_reducible refine region_tame_a mixedO (by decide +kernel) fun K hK => ?_; simp [*, Low, isLoadB, isTameB, List.range_succ, List.range']) | with_reducible refine pwp_block ?_ | with_reducible refine pwp_skip ?_ | with_reducible refine pwp_ret ?_ | with_reducible refine pwp_exit ?_ | (with_reducible refine cond_t ?_ ?_; (focus (simp [*]; done))) | (with_reducible refine cond_f ?_ ?_; (focus (simp [*]; done))) | with_reducible refine then_n ?_ | with_reducible refine then_r ?_ | with_reducible refine then_e ?_ | with_reducible refine then_g ?_ | with_reducible refine inB_n ?_ | with_reducible refine inB_r ?_ | with_reducible refine inB_e ?_ | with_reducible refine inB_o rfl ?_ | with_reducible refine inB_g ?_ | with_reducible refine Leads.go (by assumption) ?_)
  refine PCalls.mono (CountString_spec l c _) ?_
  intro d3 H3 hd3
  rw [hd3.1, hd3.2]
  clear hd3
  try simp [*]
  repeat (first | with_reducible refine seq_k fun K hK => ?_ | (with_reducible refine region_k fun K hK => ?_; simp [*]) | (with_reducible refine region_drawT_k mixedO (by decide +kernel) fun K hK => ?_; simp [*]) | (with_reducible refine region_tame_a mixedO (by decide +kernel) fun K hK => ?_; simp [*, Low, isLoadB, isTameB, List.range_succ, List.range']) | with_reducible refine pwp_block ?_ | with_reducible refine pwp_skip ?_ | with_reducible refine pwp_ret ?_ | with_reducible refine pwp_exit ?_ | (with_reducible refine cond_t ?_ ?_; (focus (simp [*]; done))) | (with_reducible refine cond_f ?_ ?_; (focus (simp [*]; done))) | with_reducible refine then_n ?_ | with_reducible refine then_r ?_ | with_reducible refine then_e ?_ | with_reducible refine then_g ?_ | with_reducible refine inB_n ?_ | with_reducible refine inB_r ?_ | with_reducible refine inB_e ?_ | with_reducible refine inB_o rfl ?_ | with_reducible refine inB_g ?_ | with_reducible refine Leads.go (by assumption) ?_)
  simp [*]
set_option maxHeartbeats 4000000 in
set_option maxRecDepth 100000 in
theorem genSplit1_local (l : By) (c : UInt8) (hl : l.length ≤ 100000) : PCalls Try.prog 123 [sD l, sD [c], .val (.int .i64 0), .val (.int .i64 (-1))] (noHeap noG) fun d H' => fz Try.prog 3 H' d = some (.slice 0 9 ((splitB c l).map sD)) := by
  refine PCalls.of_pwp Try.call123 Try.func123 rfl (by simp [Try.ntmps123]) ?_
  rw [Try.ntmps123]
  have hL := splitB_len c l
  have hcl : l.count c ≤ l.length := List.count_le_length
  obtain ⟨N, hN⟩ : ∃ N, l.count c = N := ⟨_, rfl⟩
  obtain ⟨L, hLe⟩ : ∃ L, splitB c l = L := ⟨_, rfl⟩
  rw [hN, hLe] at hL
  rw [hN] at hcl
  have w1 := wrapI ((N : Int) + 1) (by omega) (by omega)
  have w2 := wrapI ((l.length : Int) + 1) (by omega) (by omega)
  have w3 := wrapI ((N : Int) + 1 - 1) (by omega) (by omega)
  have m1 : ¬ (l.length : Int) + 1 < (N : Int) + 1 := by omega
  have s1 : 0 ≤ (N : Int) + 1 := by omega
  have s2 : 16 * ((N : Int) + 1) ≤ 281474976710656 := by omega
  have s3 : ((N : Int) + 1) ≤ 9223372036854775807 := by omega
  repeat (first | with_reducible refine seq_k fun K hK => ?_ | (with_reducible refine region_k fun K hK => ?_; simp [*]) | (with_reducible refine region_drawT_k mixedO (by decide +kernel) fun K hK => ?_; simp [*]) | (with_reducible refine region_tame_a mixedO (by decide +kernel) fun K hK => ?_; simp [*, Low, isLoadB, isTameB, List.range_succ, List.range']) | with_reducible refine pwp_block ?_ | with_reducible refine pwp_skip ?_ | with_reducible refine pwp_ret ?_ | with_reducible refine pwp_exit ?_ | (with_reducible refine cond_t ?_ ?_; (focus (simp [*]; done))) | (with_reducible refine cond_f ?_ ?_; (focus (simp [*]; done))) | with_reducible refine then_n ?_ | with_reducible refine then_r ?_ | with_reducible refine then_e ?_ | with_reducible refine then_g ?_ | with_reducible refine inB_n ?_ | with_reducible refine inB_r ?_ | with_reducible refine inB_e ?_ | with_reducible refine inB_o rfl ?_ | with_reducible refine inB_g ?_ | with_reducible refine Leads.go (by assumption) ?_)
  refine PCalls.mono (Count1_spec l c _) ?_
  intro d3 H3 hd3
  rw [hd3.1, hd3.2]
  clear hd3
  try simp [*]
  have w4 := wrapI (N : Int) (by omega) (by omega)
  repeat (first | with_reducible refine seq_k fun K hK => ?_ | (with_reducible refine region_k fun K hK => ?_; simp [*]) | (with_reducible refine region_drawT_k mixedO (by decide +kernel) fun K hK => ?_; simp [*]) | (with_reducible refine region_tame_a mixedO (by decide +kernel) fun K hK => ?_; simp [*, Low, isLoadB, isTameB, List.range_succ, List.range']) | with_reducible refine pwp_block ?_ | with_reducible refine pwp_skip ?_ | with_reducible refine pwp_ret ?_ | with_reducible refine pwp_exit ?_ | (with_reducible refine cond_t ?_ ?_; (focus (simp [*]; done))) | (with_reducible refine cond_f ?_ ?_; (focus (simp [*]; done))) | with_reducible refine then_n ?_ | with_reducible refine then_r ?_ | with_reducible refine then_e ?_ | with_reducible refine then_g ?_ | with_reducible refine inB_n ?_ | with_reducible refine inB_r ?_ | with_reducible refine inB_e ?_ | with_reducible refine inB_o rfl ?_ | with_reducible refine inB_g ?_ | with_reducible refine Leads.go (by assumption) ?_)
  clear w1 w2 w3 m1 s1 s2 s3
  have hA : (L.map sD).length = N + 1 := by simpa using hL
  obtain ⟨A, hAe⟩ : ∃ A, L.map sD = A := ⟨_, rfl⟩
  rw [hAe] at hA
  refine pwp_for (N) (fun k st => st.env.n = 66 ∧ st.df = [] ∧ st.env.get 1 = sD [c] ∧ st.env.get 2 = .val (.int .i64 0) ∧ st.env.get 3 = .val (.int .i64 (N : Nat)) ∧ st.env.get 9 = .row 0 9 0 (N + 1) ∧ st.env.get 10 = .val (.int .i64 (k : Nat)) ∧ ((∃ r, st.env.get 0 = sD r ∧ splitB c r = L.drop k ∧ r.length ≤ 100000) ∧ st.H.get 0 = some (.row 9 (fill A k (sD []))))) ⟨by first | (simp; done) | (simp [*]; done), rfl, by first | (simp; done) | (simp [*]; done), by first | (simp; done) | (simp [*]; done), by first | (simp; done) | (simp [*]; done), by first | (simp; done) | (simp [*]; done), by first | (simp; done) | (simp [*]; done), ?_⟩ ?_ ?_
  · refine ⟨⟨l, by simp, by simpa using hLe, hl⟩, ?_⟩
    simp [fill_zero, hA]
  · rintro k ⟨E, Hx, df⟩ hk ⟨en, edf, e1, e2, e3, e9, e10, eP⟩
    simp only at en edf e1 e2 e3 e9 e10
    subst edf
    have hki : (k : Int) < ((N : Nat) : Int) := by omega
    have hkw := wrapSucc k (by omega)
    obtain ⟨⟨r, e0, er, hr⟩, eH⟩ := eP
    simp only at e0 eH
    have hk1 : k < L.length := by omega
    have hk2 : k + 1 < L.length := by omega
    rw [List.drop_eq_getElem_cons hk1, List.drop_eq_getElem_cons hk2] at er
    obtain ⟨r2, h1, h2, h3⟩ := splitB_two c r _ _ _ er
    obtain ⟨p, hp⟩ : ∃ p, L[k] = p := ⟨_, rfl⟩
    rw [hp] at h1 h2
    have hi := indexByte_at c p r2 h2
    rw [← h1] at hi
    have hlen : r.length = p.length + r2.length + 1 := by rw [h1]; simp; omega
    have h4 : splitB c r2 = L.drop (k + 1) := by rw [h3, ← List.drop_eq_getElem_cons hk2]
    have hpA : A[k]? = some (sD p) := by rw [← hAe, List.getElem?_map, List.getElem?_eq_getElem hk1, hp]; rfl
    have hg := fill_get A k (sD []) (by omega)
    have hst := fill_set A k (sD []) (sD p) hpA
    have hfl := fill_len A k (sD []) (by omega)
    have t1 : r.take p.length = p := by rw [h1]; simp
    have t2 : r.drop (p.length + 1) = r2 := by rw [h1, List.drop_append, List.drop_eq_nil_of_le (by omega)]; simp
    have hi0 : ¬ (p.length : Int) < 0 := by omega
    have v1 := wrapI ((p.length : Int)) (by omega) (by omega)
    have v2 := wrapI ((p.length : Int) + 1) (by omega) (by omega)
    have v3 : (p.length : Int) ≤ (r.length : Int) := by omega
    have v4 : (p.length : Int) + 1 ≤ (r.length : Int) := by omega
    have kp := Hold.mk (And.intro hpA (And.intro hr (And.intro hlen h4)))
    clear h1 h2 h3 er hp hpA hlen h4 hk1 hk2 hLe hN hcl
    simp only [sD] at hg hst
    have hge := get_of hg
    have v6 : (k : Int) < (N : Int) + 1 := by omega
    repeat (first | with_reducible refine seq_k fun K hK => ?_ | (with_reducible refine region_k fun K hK => ?_; simp [*]) | (with_reducible refine region_drawT_k mixedO (by decide +kernel) fun K hK => ?_; simp [*]) | (with_reducible refine region_tame_a mixedO (by decide +kernel) fun K hK => ?_; simp [*, Low, isLoadB, isTameB, List.range_succ, List.range']) | with_reducible refine pwp_block ?_ | with_reducible refine pwp_skip ?_ | with_reducible refine pwp_ret ?_ | with_reducible refine pwp_exit ?_ | (with_reducible refine cond_t ?_ ?_; (focus (simp [*]; done))) | (with_reducible refine cond_f ?_ ?_; (focus (simp [*]; done))) | with_reducible refine then_n ?_ | with_reducible refine then_r ?_ | with_reducible refine then_e ?_ | with_reducible refine then_g ?_ | with_reducible refine inB_n ?_ | with_reducible refine inB_r ?_ | with_reducible refine inB_e ?_ | with_reducible refine inB_o rfl ?_ | with_reducible refine inB_g ?_ | with_reducible refine Leads.go (by assumption) ?_)
    refine PCalls.mono (Index1_spec r c _) ?_
    intro d3 H3 hd3
    rw [hd3.1, hd3.2]
    clear hd3
    try simp [*]
    repeat (first | with_reducible refine seq_k fun K hK => ?_ | (with_reducible refine region_k fun K hK => ?_; simp [*]) | (with_reducible refine region_drawT_k mixedO (by decide +kernel) fun K hK => ?_; simp [*]) | (with_reducible refine region_tame_a mixedO (by decide +kernel) fun K hK => ?_; simp [*, Low, isLoadB, isTameB, List.range_succ, List.range']) | with_reducible refine pwp_block ?_ | with_reducible refine pwp_skip ?_ | with_reducible refine pwp_ret ?_ | with_reducible refine pwp_exit ?_ | (with_reducible refine cond_t ?_ ?_; (focus (simp [*]; done))) | (with_reducible refine cond_f ?_ ?_; (focus (simp [*]; done))) | with_reducible refine then_n ?_ | with_reducible refine then_r ?_ | with_reducible refine then_e ?_ | with_reducible refine then_g ?_ | with_reducible refine inB_n ?_ | with_reducible refine inB_r ?_ | with_reducible refine inB_e ?_ | with_reducible refine inB_o rfl ?_ | with_reducible refine inB_g ?_ | with_reducible refine Leads.go (by assumption) ?_)
    try simp [*]
    obtain ⟨hpA, hr, hlen, h4⟩ := kp.out
    first
    | exact ⟨h4, by omega⟩
    | exact ⟨r2, rfl, h4, by omega⟩
    | exact ⟨⟨r2, rfl, h4, by omega⟩, hst⟩
    | exact ⟨by simp [*], rfl, by simp [*], by simp [*], by simp [*], by simp [*], by simp [*], ⟨r2, by simp [*], h4, by omega⟩, by simpa [en] using hst⟩
    | (trace_state; done)
  · rintro ⟨E, Hx, df⟩ ⟨en, edf, e1, e2, e3, e9, e10, eP⟩
    simp only at en edf e1 e2 e3 e9 e10
    subst edf
    obtain ⟨⟨r, e0, er, hr⟩, eH⟩ := eP
    simp only at e0 eH
    have hk1 : N < L.length := by omega
    rw [List.drop_eq_getElem_cons hk1, List.drop_eq_nil_of_le (by omega)] at er
    have hrp := splitB_one c r _ er
    have hpA : A[N]? = some (sD r) := by rw [← hAe, List.getElem?_map, List.getElem?_eq_getElem hk1, hrp]; rfl
    have hg := fill_get A N (sD []) (by omega)
    have hst := fill_set A N (sD []) (sD r) hpA
    have hal := fill_all A (sD [])
    rw [hA] at hal
    rw [hal] at hst
    have hfl := fill_len A N (sD []) (by omega)
    have v1 := wrapI ((N : Int) + 1) (by omega) (by omega)
    have v4 : (N : Int) < (N : Int) + 1 := by omega
    have v5 : 0 ≤ (N : Int) + 1 := by omega
    have hm : mapO (fz Try.prog 2 (Hx.put 0 (some (.row 9 A)))) A = some A := by rw [← hAe]; exact fz_vals (fun s : By => .string ⟨s.toArray⟩) 1 _ L
    have kp := Hold.mk (And.intro hLe (And.intro hAe hm))
    clear hpA hrp er hLe hAe hN hcl hk1 hm
    simp only [sD] at hg hst
    have hge := get_of hg
    repeat (first | with_reducible refine seq_k fun K hK => ?_ | (with_reducible refine region_k fun K hK => ?_; simp [*]) | (with_reducible refine region_drawT_k mixedO (by decide +kernel) fun K hK => ?_; simp [*]) | (with_reducible refine region_tame_a mixedO (by decide +kernel) fun K hK => ?_; simp [*, Low, isLoadB, isTameB, List.range_succ, List.range']) | with_reducible refine pwp_block ?_ | with_reducible refine pwp_skip ?_ | with_reducible refine pwp_ret ?_ | with_reducible refine pwp_exit ?_ | (with_reducible refine cond_t ?_ ?_; (focus (simp [*]; done))) | (with_reducible refine cond_f ?_ ?_; (focus (simp [*]; done))) | with_reducible refine then_n ?_ | with_reducible refine then_r ?_ | with_reducible refine then_e ?_ | with_reducible refine then_g ?_ | with_reducible refine inB_n ?_ | with_reducible refine inB_r ?_ | with_reducible refine inB_e ?_ | with_reducible refine inB_o rfl ?_ | with_reducible refine inB_g ?_ | with_reducible refine Leads.go (by assumption) ?_)
    simp [*]
    obtain ⟨hLe, hAe, hm⟩ := kp.out
    rw [hLe, hAe, fz]
    simp only [Heap.put_same]
    rw [if_pos ⟨trivial, by omega⟩, List.drop_zero, ← hA, List.take_length, hm]
    simp [hA]
set_option maxHeartbeats 4000000 in
set_option maxRecDepth 100000 in
theorem Split1_local (l : By) (c : UInt8) (hl : l.length ≤ 100000) : PCalls Try.prog 121 [sD l, sD [c]] (noHeap noG) fun d H' => d = .slice 0 9 ((splitB c l).map sD) := by
  refine PCalls.of_pwp Try.call121 Try.func121 rfl (by simp [Try.ntmps121]) ?_
  rw [Try.ntmps121]
  repeat (first | with_reducible refine seq_k fun K hK => ?_ | (with_reducible refine region_k fun K hK => ?_; simp [*]) | (with_reducible refine region_drawT_k mixedO (by decide +kernel) fun K hK => ?_; simp [*]) | (with_reducible refine region_tame_a mixedO (by decide +kernel) fun K hK => ?_; simp [*, Low, isLoadB, isTameB, List.range_succ, List.range']) | with_reducible refine pwp_block ?_ | with_reducible refine pwp_skip ?_ | with_reducible refine pwp_ret ?_ | with_reducible refine pwp_exit ?_ | (with_reducible refine cond_t ?_ ?_; (focus (simp [*]; done))) | (with_reducible refine cond_f ?_ ?_; (focus (simp [*]; done))) | with_reducible refine then_n ?_ | with_reducible refine then_r ?_ | with_reducible refine then_e ?_ | with_reducible refine then_g ?_ | with_reducible refine inB_n ?_ | with_reducible refine inB_r ?_ | with_reducible refine inB_e ?_ | with_reducible refine inB_o rfl ?_ | with_reducible refine inB_g ?_ | with_reducible refine Leads.go (by assumption) ?_)
  refine PCalls.mono (PCalls.frozen (genSplit1_local l c hl)) ?_
  rintro d H rfl
  try simp
  repeat (first | with_reducible refine seq_k fun K hK => ?_ | (with_reducible refine region_k fun K hK => ?_; simp [*]) | (with_reducible refine region_drawT_k mixedO (by decide +kernel) fun K hK => ?_; simp [*]) | (with_reducible refine region_tame_a mixedO (by decide +kernel) fun K hK => ?_; simp [*, Low, isLoadB, isTameB, List.range_succ, List.range']) | with_reducible refine pwp_block ?_ | with_reducible refine pwp_skip ?_ | with_reducible refine pwp_ret ?_ | with_reducible refine pwp_exit ?_ | (with_reducible refine cond_t ?_ ?_; (focus (simp [*]; done))) | (with_reducible refine cond_f ?_ ?_; (focus (simp [*]; done))) | with_reducible refine then_n ?_ | with_reducible refine then_r ?_ | with_reducible refine then_e ?_ | with_reducible refine then_g ?_ | with_reducible refine inB_n ?_ | with_reducible refine inB_r ?_ | with_reducible refine inB_e ?_ | with_reducible refine inB_o rfl ?_ | with_reducible refine inB_g ?_ | with_reducible refine Leads.go (by assumption) ?_)
  simp
set_option maxRecDepth 100000 in
theorem Split1_spec (l : By) (c : UInt8) (hl : l.length ≤ 100000) (H : Heap) : PCalls Try.prog 121 [sD l, sD [c]] H fun d H' => d = .slice 0 9 ((splitB c l).map sD) ∧ H' = H :=
  PCalls.liftG (Split1_local l c hl) (fun d hd => by
    simp only [List.mem_cons, List.mem_nil_iff, or_false] at hd
    rcases hd with rfl | rfl <;> exact .val _) (pure_strs _ _ _) H
end Go.Pv
