/- A part of the proof: functions of the program, walked, or what operations come to. -/
import Derived.Test.YtnmpinbfddjhmaaPvP1
import Derived.Test.YtnmpinbfddjhmaaPvN3
-- ZpvTameA ZpvDrawT
namespace Go.Pv
open Go.Proofs
attribute [-simp] eLen UInt8.ofNat_add

/-! ### strings.Split by one sign -/
theorem toU8 (c : UInt8) : ((c.toNat : Int)).toNat.toUInt8 = c := by simp
set_option maxRecDepth 100000 in
theorem CountString_spec (l : By) (c : UInt8) (H : Heap) : PCalls Try.prog 98 [sD l, .val (.int .u8 (c.toNat : Nat))] H fun d H' => d = .val (.int .i64 ((l.count c : Nat) : Int)) ∧ H' = H := by
  refine (prOf_sound (x := (98, .count)) ⟨_, Try.func98, by kernel_rfl, by kernel_rfl, by kernel_rfl, by kernel_rfl⟩ rfl).mono ?_
  rintro d H' ⟨rfl, rfl⟩
  rw [toU8]
  exact ⟨rfl, rfl⟩
set_option maxRecDepth 100000 in
theorem IndexByteString_spec (l : By) (c : UInt8) (H : Heap) : PCalls Try.prog 26 [sD l, .val (.int .u8 (c.toNat : Nat))] H fun d H' => d = .val (.int .i64 (Lib.indexByte l c)) ∧ H' = H := by
  refine (prOf_sound (x := (26, .indexByte)) ⟨_, Try.func26, by kernel_rfl, by kernel_rfl, by kernel_rfl, by kernel_rfl⟩ rfl).mono ?_
  rintro d H' ⟨rfl, rfl⟩
  rw [toU8]
  exact ⟨rfl, rfl⟩
set_option maxHeartbeats 4000000 in
set_option maxRecDepth 100000 in
theorem slIndexByte_spec (l : By) (c : UInt8) (H : Heap) : PCalls Try.prog 22 [sD l, .val (.int .u8 (c.toNat : Nat))] H fun d H' => d = .val (.int .i64 (Lib.indexByte l c)) ∧ H' = H := by
  refine PCalls.of_pwp Try.call22 Try.func22 rfl (by simp [Try.ntmps22]) ?_
  rw [Try.ntmps22]
  repeat (first | (with_reducible first | refine seq_k fun K hK => ?_ | refine pwp_block ?_ | refine pwp_skip ?_ | refine pwp_ret ?_ | refine pwp_exit ?_ | refine then_n ?_ | refine then_r ?_ | refine then_e ?_ | refine then_g ?_ | refine inB_n ?_ | refine inB_r ?_ | refine inB_e ?_ | refine inB_o rfl ?_ | refine inB_g ?_ | refine Leads.go (by assumption) ?_) | (with_reducible refine region_k fun K hK => ?_; simp [*]) | (with_reducible refine region_drawT_k mixedO (by decide +kernel) fun K hK => ?_; simp [*]) | (with_reducible refine region_tame_a mixedO (by decide +kernel) fun K hK => ?_; simp [*, Low, isLoadB, isTameB, List.range_succ, List.range']) | (with_reducible refine cond_t ?_ ?_; (focus (simp [*]; done))) | (with_reducible refine cond_f ?_ ?_; (focus (simp [*]; done))))
  refine PCalls.mono (IndexByteString_spec l c _) ?_
  intro d3 H3 hd3
  rw [hd3.1, hd3.2]
  clear hd3
  try simp [*]
  repeat (first | (with_reducible first | refine seq_k fun K hK => ?_ | refine pwp_block ?_ | refine pwp_skip ?_ | refine pwp_ret ?_ | refine pwp_exit ?_ | refine then_n ?_ | refine then_r ?_ | refine then_e ?_ | refine then_g ?_ | refine inB_n ?_ | refine inB_r ?_ | refine inB_e ?_ | refine inB_o rfl ?_ | refine inB_g ?_ | refine Leads.go (by assumption) ?_) | (with_reducible refine region_k fun K hK => ?_; simp [*]) | (with_reducible refine region_drawT_k mixedO (by decide +kernel) fun K hK => ?_; simp [*]) | (with_reducible refine region_tame_a mixedO (by decide +kernel) fun K hK => ?_; simp [*, Low, isLoadB, isTameB, List.range_succ, List.range']) | (with_reducible refine cond_t ?_ ?_; (focus (simp [*]; done))) | (with_reducible refine cond_f ?_ ?_; (focus (simp [*]; done))))
  simp [*]
set_option maxHeartbeats 4000000 in
set_option maxRecDepth 100000 in
theorem slIndex1_spec (l : By) (c : UInt8) (H : Heap) : PCalls Try.prog 18 [sD l, sD [c]] H fun d H' => d = .val (.int .i64 (Lib.indexByte l c)) ∧ H' = H := by
  refine PCalls.of_pwp Try.call18 Try.func18 rfl (by simp [Try.ntmps18]) ?_
  rw [Try.ntmps18]
  have bc : byteAt [c] 0 = (c.toNat : Int) := rfl
  by_cases he : [c] = l
  · subst he
    repeat (first | (with_reducible first | refine seq_k fun K hK => ?_ | refine pwp_block ?_ | refine pwp_skip ?_ | refine pwp_ret ?_ | refine pwp_exit ?_ | refine then_n ?_ | refine then_r ?_ | refine then_e ?_ | refine then_g ?_ | refine inB_n ?_ | refine inB_r ?_ | refine inB_e ?_ | refine inB_o rfl ?_ | refine inB_g ?_ | refine Leads.go (by assumption) ?_) | (with_reducible refine region_k fun K hK => ?_; simp [*]) | (with_reducible refine region_drawT_k mixedO (by decide +kernel) fun K hK => ?_; simp [*]) | (with_reducible refine region_tame_a mixedO (by decide +kernel) fun K hK => ?_; simp [*, Low, isLoadB, isTameB, List.range_succ, List.range']) | (with_reducible refine cond_t ?_ ?_; (focus (simp [*]; done))) | (with_reducible refine cond_f ?_ ?_; (focus (simp [*]; done))))
    simp [Lib.indexByte]
  · repeat (first | (with_reducible first | refine seq_k fun K hK => ?_ | refine pwp_block ?_ | refine pwp_skip ?_ | refine pwp_ret ?_ | refine pwp_exit ?_ | refine then_n ?_ | refine then_r ?_ | refine then_e ?_ | refine then_g ?_ | refine inB_n ?_ | refine inB_r ?_ | refine inB_e ?_ | refine inB_o rfl ?_ | refine inB_g ?_ | refine Leads.go (by assumption) ?_) | (with_reducible refine region_k fun K hK => ?_; simp [*]) | (with_reducible refine region_drawT_k mixedO (by decide +kernel) fun K hK => ?_; simp [*]) | (with_reducible refine region_tame_a mixedO (by decide +kernel) fun K hK => ?_; simp [*, Low, isLoadB, isTameB, List.range_succ, List.range']) | (with_reducible refine cond_t ?_ ?_; (focus (simp [*]; done))) | (with_reducible refine cond_f ?_ ?_; (focus (simp [*]; done))))
    refine PCalls.mono (slIndexByte_spec l c _) ?_
    intro d3 H3 hd3
    rw [hd3.1, hd3.2]
    clear hd3
    try simp [*]
    repeat (first | (with_reducible first | refine seq_k fun K hK => ?_ | refine pwp_block ?_ | refine pwp_skip ?_ | refine pwp_ret ?_ | refine pwp_exit ?_ | refine then_n ?_ | refine then_r ?_ | refine then_e ?_ | refine then_g ?_ | refine inB_n ?_ | refine inB_r ?_ | refine inB_e ?_ | refine inB_o rfl ?_ | refine inB_g ?_ | refine Leads.go (by assumption) ?_) | (with_reducible refine region_k fun K hK => ?_; simp [*]) | (with_reducible refine region_drawT_k mixedO (by decide +kernel) fun K hK => ?_; simp [*]) | (with_reducible refine region_tame_a mixedO (by decide +kernel) fun K hK => ?_; simp [*, Low, isLoadB, isTameB, List.range_succ, List.range']) | (with_reducible refine cond_t ?_ ?_; (focus (simp [*]; done))) | (with_reducible refine cond_f ?_ ?_; (focus (simp [*]; done))))
    simp [*]
set_option maxHeartbeats 4000000 in
set_option maxRecDepth 100000 in
theorem Index1_spec (l : By) (c : UInt8) (H : Heap) : PCalls Try.prog 13 [sD l, sD [c]] H fun d H' => d = .val (.int .i64 (Lib.indexByte l c)) ∧ H' = H := by
  refine PCalls.of_pwp Try.call13 Try.func13 rfl (by simp [Try.ntmps13]) ?_
  rw [Try.ntmps13]
  repeat (first | (with_reducible first | refine seq_k fun K hK => ?_ | refine pwp_block ?_ | refine pwp_skip ?_ | refine pwp_ret ?_ | refine pwp_exit ?_ | refine then_n ?_ | refine then_r ?_ | refine then_e ?_ | refine then_g ?_ | refine inB_n ?_ | refine inB_r ?_ | refine inB_e ?_ | refine inB_o rfl ?_ | refine inB_g ?_ | refine Leads.go (by assumption) ?_) | (with_reducible refine region_k fun K hK => ?_; simp [*]) | (with_reducible refine region_drawT_k mixedO (by decide +kernel) fun K hK => ?_; simp [*]) | (with_reducible refine region_tame_a mixedO (by decide +kernel) fun K hK => ?_; simp [*, Low, isLoadB, isTameB, List.range_succ, List.range']) | (with_reducible refine cond_t ?_ ?_; (focus (simp [*]; done))) | (with_reducible refine cond_f ?_ ?_; (focus (simp [*]; done))))
  refine PCalls.mono (slIndex1_spec l c _) ?_
  intro d3 H3 hd3
  rw [hd3.1, hd3.2]
  clear hd3
  try simp [*]
  repeat (first | (with_reducible first | refine seq_k fun K hK => ?_ | refine pwp_block ?_ | refine pwp_skip ?_ | refine pwp_ret ?_ | refine pwp_exit ?_ | refine then_n ?_ | refine then_r ?_ | refine then_e ?_ | refine then_g ?_ | refine inB_n ?_ | refine inB_r ?_ | refine inB_e ?_ | refine inB_o rfl ?_ | refine inB_g ?_ | refine Leads.go (by assumption) ?_) | (with_reducible refine region_k fun K hK => ?_; simp [*]) | (with_reducible refine region_drawT_k mixedO (by decide +kernel) fun K hK => ?_; simp [*]) | (with_reducible refine region_tame_a mixedO (by decide +kernel) fun K hK => ?_; simp [*, Low, isLoadB, isTameB, List.range_succ, List.range']) | (with_reducible refine cond_t ?_ ?_; (focus (simp [*]; done))) | (with_reducible refine cond_f ?_ ?_; (focus (simp [*]; done))))
  simp [*]
set_option maxHeartbeats 4000000 in
set_option maxRecDepth 100000 in
theorem Count1_spec (l : By) (c : UInt8) (H : Heap) : PCalls Try.prog 95 [sD l, sD [c]] H fun d H' => d = .val (.int .i64 ((l.count c : Nat) : Int)) ∧ H' = H := by
  refine PCalls.of_pwp Try.call95 Try.func95 rfl (by simp [Try.ntmps95]) ?_
  rw [Try.ntmps95]
  have bc : byteAt [c] 0 = (c.toNat : Int) := rfl
  repeat (first | (with_reducible first | refine seq_k fun K hK => ?_ | refine pwp_block ?_ | refine pwp_skip ?_ | refine pwp_ret ?_ | refine pwp_exit ?_ | refine then_n ?_ | refine then_r ?_ | refine then_e ?_ | refine then_g ?_ | refine inB_n ?_ | refine inB_r ?_ | refine inB_e ?_ | refine inB_o rfl ?_ | refine inB_g ?_ | refine Leads.go (by assumption) ?_) | (with_reducible refine region_k fun K hK => ?_; simp [*]) | (with_reducible refine region_drawT_k mixedO (by decide +kernel) fun K hK => ?_; simp [*]) | (with_reducible refine region_tame_a mixedO (by decide +kernel) fun K hK => ?_; simp [*, Low, isLoadB, isTameB, List.range_succ, List.range']) | (with_reducible refine cond_t ?_ ?_; (focus (simp [*]; done))) | (with_reducible refine cond_f ?_ ?_; (focus (simp [*]; done))))
  refine PCalls.mono (CountString_spec l c _) ?_
  intro d3 H3 hd3
  rw [hd3.1, hd3.2]
  clear hd3
  try simp [*]
  repeat (first | (with_reducible first | refine seq_k fun K hK => ?_ | refine pwp_block ?_ | refine pwp_skip ?_ | refine pwp_ret ?_ | refine pwp_exit ?_ | refine then_n ?_ | refine then_r ?_ | refine then_e ?_ | refine then_g ?_ | refine inB_n ?_ | refine inB_r ?_ | refine inB_e ?_ | refine inB_o rfl ?_ | refine inB_g ?_ | refine Leads.go (by assumption) ?_) | (with_reducible refine region_k fun K hK => ?_; simp [*]) | (with_reducible refine region_drawT_k mixedO (by decide +kernel) fun K hK => ?_; simp [*]) | (with_reducible refine region_tame_a mixedO (by decide +kernel) fun K hK => ?_; simp [*, Low, isLoadB, isTameB, List.range_succ, List.range']) | (with_reducible refine cond_t ?_ ?_; (focus (simp [*]; done))) | (with_reducible refine cond_f ?_ ?_; (focus (simp [*]; done))))
  simp [*]
set_option maxHeartbeats 4000000 in
set_option maxRecDepth 100000 in
theorem genSplit1_local (l : By) (c : UInt8) (hl : l.length ≤ 100000) : PCalls Try.prog 123 [sD l, sD [c], .val (.int .i64 0), .val (.int .i64 (-1))] (noHeap noG) fun d H' => fz Try.prog 3 H' d = some (.slice 0 9 ((splitB c l).map sD)) := by
  refine PCalls.of_pwp Try.call123 Try.func123 rfl (by simp [Try.ntmps123]) ?_
  rw [Try.ntmps123]
  have hL := splitB_len c l
  have hcl : l.count c ≤ l.length := List.count_le_length
  obtain ⟨N, hN⟩ : ∃ N, l.count c = N := ⟨_, rfl⟩
  obtain ⟨L, hLe⟩ : ∃ L, splitB c l = L := ⟨_, rfl⟩
  rw [hN, hLe] at hL
  rw [hN] at hcl
  have w1 := wrapI ((N : Int) + 1) (by omega) (by omega)
  have w2 := wrapI ((l.length : Int) + 1) (by omega) (by omega)
  have w3 := wrapI ((N : Int) + 1 - 1) (by omega) (by omega)
  have m1 : ¬ (l.length : Int) + 1 < (N : Int) + 1 := by omega
  have s1 : 0 ≤ (N : Int) + 1 := by omega
  have s2 : 16 * ((N : Int) + 1) ≤ 281474976710656 := by omega
  have s3 : ((N : Int) + 1) ≤ 9223372036854775807 := by omega
  repeat (first | (with_reducible first | refine seq_k fun K hK => ?_ | refine pwp_block ?_ | refine pwp_skip ?_ | refine pwp_ret ?_ | refine pwp_exit ?_ | refine then_n ?_ | refine then_r ?_ | refine then_e ?_ | refine then_g ?_ | refine inB_n ?_ | refine inB_r ?_ | refine inB_e ?_ | refine inB_o rfl ?_ | refine inB_g ?_ | refine Leads.go (by assumption) ?_) | (with_reducible refine region_k fun K hK => ?_; simp [*]) | (with_reducible refine region_drawT_k mixedO (by decide +kernel) fun K hK => ?_; simp [*]) | (with_reducible refine region_tame_a mixedO (by decide +kernel) fun K hK => ?_; simp [*, Low, isLoadB, isTameB, List.range_succ, List.range']) | (with_reducible refine cond_t ?_ ?_; (focus (simp [*]; done))) | (with_reducible refine cond_f ?_ ?_; (focus (simp [*]; done))))
  refine PCalls.mono (Count1_spec l c _) ?_
  intro d3 H3 hd3
  rw [hd3.1, hd3.2]
  clear hd3
  try simp [*]
  have w4 := wrapI (N : Int) (by omega) (by omega)
  repeat (first | (with_reducible first | refine seq_k fun K hK => ?_ | refine pwp_block ?_ | refine pwp_skip ?_ | refine pwp_ret ?_ | refine pwp_exit ?_ | refine then_n ?_ | refine then_r ?_ | refine then_e ?_ | refine then_g ?_ | refine inB_n ?_ | refine inB_r ?_ | refine inB_e ?_ | refine inB_o rfl ?_ | refine inB_g ?_ | refine Leads.go (by assumption) ?_) | (with_reducible refine region_k fun K hK => ?_; simp [*]) | (with_reducible refine region_drawT_k mixedO (by decide +kernel) fun K hK => ?_; simp [*]) | (with_reducible refine region_tame_a mixedO (by decide +kernel) fun K hK => ?_; simp [*, Low, isLoadB, isTameB, List.range_succ, List.range']) | (with_reducible refine cond_t ?_ ?_; (focus (simp [*]; done))) | (with_reducible refine cond_f ?_ ?_; (focus (simp [*]; done))))
  clear w1 w2 w3 m1 s1 s2 s3
  have hA : (L.map sD).length = N + 1 := by simpa using hL
  obtain ⟨A, hAe⟩ : ∃ A, L.map sD = A := ⟨_, rfl⟩
  rw [hAe] at hA
  refine pwp_for (N) (fun k st => st.env.n = 66 ∧ st.df = [] ∧ st.env.get 1 = sD [c] ∧ st.env.get 2 = .val (.int .i64 0) ∧ st.env.get 3 = .val (.int .i64 (N : Nat)) ∧ st.env.get 9 = .row 0 9 0 (N + 1) ∧ st.env.get 10 = .val (.int .i64 (k : Nat)) ∧ ((∃ r, st.env.get 0 = sD r ∧ splitB c r = L.drop k ∧ r.length ≤ 100000) ∧ st.H.get 0 = some (.row 9 (fill A k (sD []))))) ⟨by first | (simp; done) | (simp [*]; done), rfl, by first | (simp; done) | (simp [*]; done), by first | (simp; done) | (simp [*]; done), by first | (simp; done) | (simp [*]; done), by first | (simp; done) | (simp [*]; done), by first | (simp; done) | (simp [*]; done), ?_⟩ ?_ ?_
  · refine ⟨⟨l, by simp, by simpa using hLe, hl⟩, ?_⟩
    simp [fill_zero, hA]
  · rintro k ⟨E, Hx, df⟩ hk ⟨en, edf, e1, e2, e3, e9, e10, eP⟩
    simp only at en edf e1 e2 e3 e9 e10
    subst edf
    have hki : (k : Int) < ((N : Nat) : Int) := by omega
    have hkw := wrapSucc k (by omega)
    obtain ⟨⟨r, e0, er, hr⟩, eH⟩ := eP
    simp only at e0 eH
    have hk1 : k < L.length := by omega
    have hk2 : k + 1 < L.length := by omega
    rw [List.drop_eq_getElem_cons hk1, List.drop_eq_getElem_cons hk2] at er
    obtain ⟨r2, h1, h2, h3⟩ := splitB_two c r _ _ _ er
    obtain ⟨p, hp⟩ : ∃ p, L[k] = p := ⟨_, rfl⟩
    rw [hp] at h1 h2
    have hi := indexByte_at c p r2 h2
    rw [← h1] at hi
    have hlen : r.length = p.length + r2.length + 1 := by rw [h1]; simp; omega
    have h4 : splitB c r2 = L.drop (k + 1) := by rw [h3, ← List.drop_eq_getElem_cons hk2]
    have hpA : A[k]? = some (sD p) := by rw [← hAe, List.getElem?_map, List.getElem?_eq_getElem hk1, hp]; rfl
    have hg := fill_get A k (sD []) (by omega)
    have hst := fill_set A k (sD []) (sD p) hpA
    have hfl := fill_len A k (sD []) (by omega)
    have t1 : r.take p.length = p := by rw [h1]; simp
    have t2 : r.drop (p.length + 1) = r2 := by rw [h1, List.drop_append, List.drop_eq_nil_of_le (by omega)]; simp
    have hi0 : ¬ (p.length : Int) < 0 := by omega
    have v1 := wrapI ((p.length : Int)) (by omega) (by omega)
    have v2 := wrapI ((p.length : Int) + 1) (by omega) (by omega)
    have v3 : (p.length : Int) ≤ (r.length : Int) := by omega
    have v4 : (p.length : Int) + 1 ≤ (r.length : Int) := by omega
    have kp := Hold.mk (And.intro hpA (And.intro hr (And.intro hlen h4)))
    clear h1 h2 h3 er hp hpA hlen h4 hk1 hk2 hLe hN hcl
    simp only [sD] at hg hst
    have hge := get_of hg
    have v6 : (k : Int) < (N : Int) + 1 := by omega
    repeat (first | (with_reducible first | refine seq_k fun K hK => ?_ | refine pwp_block ?_ | refine pwp_skip ?_ | refine pwp_ret ?_ | refine pwp_exit ?_ | refine then_n ?_ | refine then_r ?_ | refine then_e ?_ | refine then_g ?_ | refine inB_n ?_ | refine inB_r ?_ | refine inB_e ?_ | refine inB_o rfl ?_ | refine inB_g ?_ | refine Leads.go (by assumption) ?_) | (with_reducible refine region_k fun K hK => ?_; simp [*]) | (with_reducible refine region_drawT_k mixedO (by decide +kernel) fun K hK => ?_; simp [*]) | (with_reducible refine region_tame_a mixedO (by decide +kernel) fun K hK => ?_; simp [*, Low, isLoadB, isTameB, List.range_succ, List.range']) | (with_reducible refine cond_t ?_ ?_; (focus (simp [*]; done))) | (with_reducible refine cond_f ?_ ?_; (focus (simp [*]; done))))
    refine PCalls.mono (Index1_spec r c _) ?_
    intro d3 H3 hd3
    rw [hd3.1, hd3.2]
    clear hd3
    try simp [*]
    repeat (first | (with_reducible first | refine seq_k fun K hK => ?_ | refine pwp_block ?_ | refine pwp_skip ?_ | refine pwp_ret ?_ | refine pwp_exit ?_ | refine then_n ?_ | refine then_r ?_ | refine then_e ?_ | refine then_g ?_ | refine inB_n ?_ | refine inB_r ?_ | refine inB_e ?_ | refine inB_o rfl ?_ | refine inB_g ?_ | refine Leads.go (by assumption) ?_) | (with_reducible refine region_k fun K hK => ?_; simp [*]) | (with_reducible refine region_drawT_k mixedO (by decide +kernel) fun K hK => ?_; simp [*]) | (with_reducible refine region_tame_a mixedO (by decide +kernel) fun K hK => ?_; simp [*, Low, isLoadB, isTameB, List.range_succ, List.range']) | (with_reducible refine cond_t ?_ ?_; (focus (simp [*]; done))) | (with_reducible refine cond_f ?_ ?_; (focus (simp [*]; done))))
    try simp [*]
    obtain ⟨hpA, hr, hlen, h4⟩ := kp.out
    first
    | exact ⟨h4, by omega⟩
    | exact ⟨r2, rfl, h4, by omega⟩
    | exact ⟨⟨r2, rfl, h4, by omega⟩, hst⟩
    | exact ⟨by simp [*], rfl, by simp [*], by simp [*], by simp [*], by simp [*], by simp [*], ⟨r2, by simp [*], h4, by omega⟩, by simpa [en] using hst⟩
    | (trace_state; done)
  · rintro ⟨E, Hx, df⟩ ⟨en, edf, e1, e2, e3, e9, e10, eP⟩
    simp only at en edf e1 e2 e3 e9 e10
    subst edf
    obtain ⟨⟨r, e0, er, hr⟩, eH⟩ := eP
    simp only at e0 eH
    have hk1 : N < L.length := by omega
    rw [List.drop_eq_getElem_cons hk1, List.drop_eq_nil_of_le (by omega)] at er
    have hrp := splitB_one c r _ er
    have hpA : A[N]? = some (sD r) := by rw [← hAe, List.getElem?_map, List.getElem?_eq_getElem hk1, hrp]; rfl
    have hg := fill_get A N (sD []) (by omega)
    have hst := fill_set A N (sD []) (sD r) hpA
    have hal := fill_all A (sD [])
    rw [hA] at hal
    rw [hal] at hst
    have hfl := fill_len A N (sD []) (by omega)
    have v1 := wrapI ((N : Int) + 1) (by omega) (by omega)
    have v4 : (N : Int) < (N : Int) + 1 := by omega
    have v5 : 0 ≤ (N : Int) + 1 := by omega
    have hm : mapO (fz Try.prog 2 (Hx.put 0 (some (.row 9 A)))) A = some A := by rw [← hAe]; exact fz_vals (fun s : By => .string ⟨s.toArray⟩) 1 _ L
    have kp := Hold.mk (And.intro hLe (And.intro hAe hm))
    clear hpA hrp er hLe hAe hN hcl hk1 hm
    simp only [sD] at hg hst
    have hge := get_of hg
    repeat (first | (with_reducible first | refine seq_k fun K hK => ?_ | refine pwp_block ?_ | refine pwp_skip ?_ | refine pwp_ret ?_ | refine pwp_exit ?_ | refine then_n ?_ | refine then_r ?_ | refine then_e ?_ | refine then_g ?_ | refine inB_n ?_ | refine inB_r ?_ | refine inB_e ?_ | refine inB_o rfl ?_ | refine inB_g ?_ | refine Leads.go (by assumption) ?_) | (with_reducible refine region_k fun K hK => ?_; simp [*]) | (with_reducible refine region_drawT_k mixedO (by decide +kernel) fun K hK => ?_; simp [*]) | (with_reducible refine region_tame_a mixedO (by decide +kernel) fun K hK => ?_; simp [*, Low, isLoadB, isTameB, List.range_succ, List.range']) | (with_reducible refine cond_t ?_ ?_; (focus (simp [*]; done))) | (with_reducible refine cond_f ?_ ?_; (focus (simp [*]; done))))
    simp [*]
    obtain ⟨hLe, hAe, hm⟩ := kp.out
    rw [hLe, hAe, fz]
    simp only [Heap.put_same]
    rw [if_pos ⟨trivial, by omega⟩, List.drop_zero, ← hA, List.take_length, hm]
    simp [hA]
set_option maxHeartbeats 4000000 in
set_option maxRecDepth 100000 in
theorem Split1_local (l : By) (c : UInt8) (hl : l.length ≤ 100000) : PCalls Try.prog 121 [sD l, sD [c]] (noHeap noG) fun d H' => d = .slice 0 9 ((splitB c l).map sD) := by
  refine PCalls.of_pwp Try.call121 Try.func121 rfl (by simp [Try.ntmps121]) ?_
  rw [Try.ntmps121]
  repeat (first | (with_reducible first | refine seq_k fun K hK => ?_ | refine pwp_block ?_ | refine pwp_skip ?_ | refine pwp_ret ?_ | refine pwp_exit ?_ | refine then_n ?_ | refine then_r ?_ | refine then_e ?_ | refine then_g ?_ | refine inB_n ?_ | refine inB_r ?_ | refine inB_e ?_ | refine inB_o rfl ?_ | refine inB_g ?_ | refine Leads.go (by assumption) ?_) | (with_reducible refine region_k fun K hK => ?_; simp [*]) | (with_reducible refine region_drawT_k mixedO (by decide +kernel) fun K hK => ?_; simp [*]) | (with_reducible refine region_tame_a mixedO (by decide +kernel) fun K hK => ?_; simp [*, Low, isLoadB, isTameB, List.range_succ, List.range']) | (with_reducible refine cond_t ?_ ?_; (focus (simp [*]; done))) | (with_reducible refine cond_f ?_ ?_; (focus (simp [*]; done))))
  refine PCalls.mono (PCalls.frozen (genSplit1_local l c hl)) ?_
  rintro d H rfl
  try simp
  repeat (first | (with_reducible first | refine seq_k fun K hK => ?_ | refine pwp_block ?_ | refine pwp_skip ?_ | refine pwp_ret ?_ | refine pwp_exit ?_ | refine then_n ?_ | refine then_r ?_ | refine then_e ?_ | refine then_g ?_ | refine inB_n ?_ | refine inB_r ?_ | refine inB_e ?_ | refine inB_o rfl ?_ | refine inB_g ?_ | refine Leads.go (by assumption) ?_) | (with_reducible refine region_k fun K hK => ?_; simp [*]) | (with_reducible refine region_drawT_k mixedO (by decide +kernel) fun K hK => ?_; simp [*]) | (with_reducible refine region_tame_a mixedO (by decide +kernel) fun K hK => ?_; simp [*, Low, isLoadB, isTameB, List.range_succ, List.range']) | (with_reducible refine cond_t ?_ ?_; (focus (simp [*]; done))) | (with_reducible refine cond_f ?_ ?_; (focus (simp [*]; done))))
  simp
set_option maxRecDepth 100000 in
theorem Split1_spec (l : By) (c : UInt8) (hl : l.length ≤ 100000) (H : Heap) : PCalls Try.prog 121 [sD l, sD [c]] H fun d H' => d = .slice 0 9 ((splitB c l).map sD) ∧ H' = H :=
  PCalls.liftG (Split1_local l c hl) (fun d hd => by
    simp only [List.mem_cons, List.mem_nil_iff, or_false] at hd
    rcases hd with rfl | rfl <;> exact .val _) (pure_strs _ _ _) H
end Go.Pv
-- ZpvTameA ZpvDrawT
namespace Go.Pv
open Go.Proofs
attribute [-simp] eLen UInt8.ofNat_add

/-! ### The numbers of an identifier -/
def arcsD (o : Option (List Nat)) : D := match o with
  | some L => .tup [.slice 0 3 (L.map natD), .val (.bool true)]
  | none => .tup [.slice 1 0 [], .val (.bool false)]
theorem pure_arcs (o : Option (List Nat)) : Pure (arcsD o) := by
  rcases o with _ | L
  · refine .tup _ fun d hd => ?_
    simp only [List.mem_cons, List.mem_nil_iff, or_false] at hd
    rcases hd with rfl | rfl
    · exact .slice _ _ _ fun d h => by cases h
    · exact .val _
  · refine .tup _ fun d hd => ?_
    simp only [List.mem_cons, List.mem_nil_iff, or_false] at hd
    rcases hd with rfl | rfl
    · exact pure_vals (fun n : Nat => .int .i64 (n : Nat)) 0 _ L
    · exact .val _
theorem fz_nil2 {P : Program} (n : Nat) (H : Heap) (v : Value) : fz P (n + 2) H (.tup [.slice 1 0 [], .val v]) = some (.tup [.slice 1 0 [], .val v]) := rfl
theorem fz_two {P : Program} {n : Nat} {H : Heap} {d d' : D} {v : Value} (h : fz P (n + 1) H d = some d') : fz P (n + 2) H (.tup [d, .val v]) = some (.tup [d', .val v]) := by
  rw [fz]
  simp only [mapO, h]
  rfl
theorem splitB_parts (c : UInt8) (l : By) (p : By) (h : p ∈ splitB c l) : p.length ≤ l.length := by
  induction l generalizing p with
  | nil => simp [splitB] at h; subst h; simp
  | cons x l ih =>
    simp only [splitB] at h
    split at h
    · rcases List.mem_cons.1 h with rfl | h
      · simp
      · have := ih p h; simp; omega
    · cases hs : splitB c l with
      | nil => exact absurd hs (splitB_ne _ _)
      | cons q ps =>
        rw [hs] at h ih
        rcases List.mem_cons.1 h with rfl | h
        · have := ih q (by simp); simp; omega
        · have := ih p (by simp [h]); simp; omega
theorem all_take_succ' {α : Type} (p : α → Bool) (l : List α) (k : Nat) (c : α) (h : l[k]? = some c) : (l.take (k + 1)).all p = ((l.take k).all p && p c) := by
  rw [List.take_add_one, h]; simp
theorem all_not' {α : Type} (p : α → Bool) (l : List α) (k : Nat) (c : α) (h : l[k]? = some c) (hp : p c = false) : l.all p = false := by
  cases hq : l.all p with
  | false => rfl
  | true => have := List.all_eq_true.1 hq c (List.mem_of_getElem? h); rw [hp] at this; cases this
theorem take_map_succ {α β : Type} (f : α → β) (l : List α) (k : Nat) (c : α) (h : l[k]? = some c) : (l.take (k + 1)).map f = (l.take k).map f ++ [f c] := by
  rw [List.take_add_one, h]; simp
theorem arcs_none {l : By} (h : (splitB 46 l).all okP = false ∨ 16 < (splitB 46 l).length) : arcsM l = none := by
  unfold arcsM
  rcases h with h | h
  · rw [h]; rfl
  · split
    · rw [if_neg]
      unfold arcOk
      split
      · rename_i a b r e
        have := congrArg List.length e
        simp at this
        have h2 : ¬ r.length ≤ 14 := by omega
        simp [h2]
      · simp
    · rfl
set_option maxHeartbeats 4000000 in
set_option maxRecDepth 100000 in
theorem arcs_local (l : By) (hl : l.length ≤ 100000) : PCalls Try.prog 118 [sD l] (noHeap noG) fun d H' => fz Try.prog 4 H' d = some (arcsD (arcsM l)) := by
  refine PCalls.of_pwp Try.call118 Try.func118 rfl (by simp [Try.ntmps118]) ?_
  rw [Try.ntmps118]
  have hnn : arcsM l = none → arcsD (arcsM l) = .tup [.slice 1 0 [], .val (.bool false)] := fun h => by rw [h]; rfl
  have hno := @arcs_none l
  have hps := splitB_parts 46 l
  have hdef : arcsM l = if (splitB 46 l).all okP = true then (if arcOk ((splitB 46 l).map digVal) = true then some ((splitB 46 l).map digVal) else none) else none := rfl
  obtain ⟨ps, hpe⟩ : ∃ ps, splitB 46 l = ps := ⟨_, rfl⟩
  obtain ⟨r, hr⟩ : ∃ r, arcsM l = r := ⟨_, rfl⟩
  have hSp := Split1_spec l 46 hl
  have hpl : ps.length ≤ 100001 := by rw [← hpe, splitB_len]; have := List.count_le_length (a := (46 : UInt8)) (l := l); omega
  rw [hpe] at hno hps hdef hSp
  rw [hr] at hno hdef hnn ⊢
  obtain ⟨N, hN⟩ : ∃ N, ps.map (fun p => natD (digVal p)) = N := ⟨_, rfl⟩
  have hNl : N.length = ps.length := by rw [← hN]; simp
  repeat (first | (with_reducible first | refine seq_k fun K hK => ?_ | refine pwp_block ?_ | refine pwp_skip ?_ | refine pwp_ret ?_ | refine pwp_exit ?_ | refine then_n ?_ | refine then_r ?_ | refine then_e ?_ | refine then_g ?_ | refine inB_n ?_ | refine inB_r ?_ | refine inB_e ?_ | refine inB_o rfl ?_ | refine inB_g ?_ | refine Leads.go (by assumption) ?_) | (with_reducible refine region_k fun K hK => ?_; simp [*]) | (with_reducible refine region_drawT_k mixedO (by decide +kernel) fun K hK => ?_; simp [*]) | (with_reducible refine region_tame_a mixedO (by decide +kernel) fun K hK => ?_; simp [*, Low, isLoadB, isTameB, List.range_succ, List.range']) | (with_reducible refine cond_t ?_ ?_; (focus (simp [*]; done))) | (with_reducible refine cond_f ?_ ?_; (focus (simp [*]; done))))
  refine PCalls.mono (hSp _) ?_
  intro d3 H3 hd3
  rw [hd3.1, hd3.2]
  clear hd3
  try simp [*]
  repeat (first | (with_reducible first | refine seq_k fun K hK => ?_ | refine pwp_block ?_ | refine pwp_skip ?_ | refine pwp_ret ?_ | refine pwp_exit ?_ | refine then_n ?_ | refine then_r ?_ | refine then_e ?_ | refine then_g ?_ | refine inB_n ?_ | refine inB_r ?_ | refine inB_e ?_ | refine inB_o rfl ?_ | refine inB_g ?_ | refine Leads.go (by assumption) ?_) | (with_reducible refine region_k fun K hK => ?_; simp [*]) | (with_reducible refine region_drawT_k mixedO (by decide +kernel) fun K hK => ?_; simp [*]) | (with_reducible refine region_tame_a mixedO (by decide +kernel) fun K hK => ?_; simp [*, Low, isLoadB, isTameB, List.range_succ, List.range']) | (with_reducible refine cond_t ?_ ?_; (focus (simp [*]; done))) | (with_reducible refine cond_f ?_ ?_; (focus (simp [*]; done))))
  refine pwp_for (ps.length) (fun k st => st.env.n = 60 ∧ st.df = [] ∧ st.env.get 10 = .slice 0 9 (ps.map sD) ∧ st.env.get 11 = .val (.int .i64 (ps.length : Nat)) ∧ st.env.get 12 = .val (.int .i64 (k : Nat)) ∧ (Hold ((ps.take k).all okP = true ∧ k ≤ 16) ∧ ∃ d, st.env.get 4 = d ∧ Grow st.H d 3 (N.take k))) ⟨by first | (simp; done) | (simp [*]; done), rfl, by first | (simp; done) | (simp [*]; done), by first | (simp; done) | (simp [*]; done), by first | (simp; done) | (simp [*]; done), ?_⟩ ?_ ?_
  · exact ⟨⟨by simp, by omega⟩, .slice 1 0 [], by simp, by simpa using Grow.nil _ _⟩
  · rintro k ⟨E, Hx, df⟩ hk ⟨en, edf, e10, e11, e12, eP⟩
    simp only at en edf e10 e11 e12
    subst edf
    have hki : (k : Int) < ((ps.length : Nat) : Int) := by omega
    have hkw := wrapSucc k (by omega)
    obtain ⟨⟨hall, hk16⟩, d, e4, hG⟩ := eP
    simp only at e4 hG
    obtain ⟨p, hp⟩ : ∃ p, ps[k]? = some p := ⟨_, List.getElem?_eq_getElem hk⟩
    have hpp := hps p (List.mem_of_getElem? hp)
    have hpm : (ps.map sD)[k]? = some (sD p) := by rw [List.getElem?_map, hp]; rfl
    have hgd : (ps.map sD).getD k .undef = sD p := by rw [List.getD, hpm]; rfl
    have hgl := get_of hpm
    have hgl2 := get_of hp
    have hml : (ps.map sD).length = ps.length := by simp
    have hs := all_take_succ' okP ps k p hp
    rw [hall, Bool.true_and] at hs
    have hNk : N[k]? = some (natD (digVal p)) := by rw [← hN, List.getElem?_map, hp]; rfl
    have htm : N.take (k + 1) = N.take k ++ [natD (digVal p)] := by rw [List.take_add_one, hNk]; rfl
    simp only [natD] at htm hNk
    have hR := ReadDigits_spec p (by omega)
    have hb : (N.take k).length = k := by simp; omega
    have hlen := lenG144 hG
    rw [hb] at hlen
    have kp := Hold.mk (And.intro hall (And.intro hno hnn))
    clear hall hno hnn hps hdef hpp hSp
    simp only [sD] at hgd hgl
    by_cases ho : okP p = true
    · obtain ⟨hrd, hp10, hlt⟩ := okP_read ho
      have hp10' : ¬ 10 < (p.length : Int) := by omega
      rw [ho] at hs
      simp only [hrd, rdD, Option.getD, Option.isSome] at hR
      by_cases h16 : k = 16
      · have hrn : r = none := kp.out.2.1 (.inr (by omega))
        have hfin := kp.out.2.2 hrn
        subst h16
        have hk3 : (16 : Int) < (ps.length : Int) := by omega
        rw [hfin]
        repeat (first | (with_reducible first | refine seq_k fun K hK => ?_ | refine pwp_block ?_ | refine pwp_skip ?_ | refine pwp_ret ?_ | refine pwp_exit ?_ | refine then_n ?_ | refine then_r ?_ | refine then_e ?_ | refine then_g ?_ | refine inB_n ?_ | refine inB_r ?_ | refine inB_e ?_ | refine inB_o rfl ?_ | refine inB_g ?_ | refine Leads.go (by assumption) ?_) | (with_reducible refine region_k fun K hK => ?_; simp [*]) | (with_reducible refine region_drawT_k mixedO (by decide +kernel) fun K hK => ?_; simp [*]) | (with_reducible refine region_tame_a mixedO (by decide +kernel) fun K hK => ?_; simp [*, Low, isLoadB, isTameB, List.range_succ, List.range']) | (with_reducible refine cond_t ?_ ?_; (focus (simp [*]; done))) | (with_reducible refine cond_f ?_ ?_; (focus (simp [*]; done))))
        refine PCalls.mono (hR _) ?_
        intro d3 H3 hd3
        rw [hd3.1, hd3.2]
        clear hd3
        try simp [*]
        try simp [*]
        repeat (first | (with_reducible first | refine seq_k fun K hK => ?_ | refine pwp_block ?_ | refine pwp_skip ?_ | refine pwp_ret ?_ | refine pwp_exit ?_ | refine then_n ?_ | refine then_r ?_ | refine then_e ?_ | refine then_g ?_ | refine inB_n ?_ | refine inB_r ?_ | refine inB_e ?_ | refine inB_o rfl ?_ | refine inB_g ?_ | refine Leads.go (by assumption) ?_) | (with_reducible refine region_k fun K hK => ?_; simp [*]) | (with_reducible refine region_drawT_k mixedO (by decide +kernel) fun K hK => ?_; simp [*]) | (with_reducible refine region_tame_a mixedO (by decide +kernel) fun K hK => ?_; simp [*, Low, isLoadB, isTameB, List.range_succ, List.range']) | (with_reducible refine cond_t ?_ ?_; (focus (simp [*]; done))) | (with_reducible refine cond_f ?_ ?_; (focus (simp [*]; done))))
        simp [*]
        rfl
      · have h16' : ¬ (k : Int) = 16 := by omega
        repeat (first | (with_reducible first | refine seq_k fun K hK => ?_ | refine pwp_block ?_ | refine pwp_skip ?_ | refine pwp_ret ?_ | refine pwp_exit ?_ | refine then_n ?_ | refine then_r ?_ | refine then_e ?_ | refine then_g ?_ | refine inB_n ?_ | refine inB_r ?_ | refine inB_e ?_ | refine inB_o rfl ?_ | refine inB_g ?_ | refine Leads.go (by assumption) ?_) | (with_reducible refine region_k fun K hK => ?_; simp [*]) | (with_reducible refine region_drawT_k mixedO (by decide +kernel) fun K hK => ?_; simp [*]) | (with_reducible refine region_tame_a mixedO (by decide +kernel) fun K hK => ?_; simp [*, Low, isLoadB, isTameB, List.range_succ, List.range']) | (with_reducible refine cond_t ?_ ?_; (focus (simp [*]; done))) | (with_reducible refine cond_f ?_ ?_; (focus (simp [*]; done))))
        refine PCalls.mono (hR _) ?_
        intro d3 H3 hd3
        rw [hd3.1, hd3.2]
        clear hd3
        try simp [*]
        try simp [*]
        repeat (first | (with_reducible first | refine seq_k fun K hK => ?_ | refine pwp_block ?_ | refine pwp_skip ?_ | refine pwp_ret ?_ | refine pwp_exit ?_ | refine then_n ?_ | refine then_r ?_ | refine then_e ?_ | refine then_g ?_ | refine inB_n ?_ | refine inB_r ?_ | refine inB_e ?_ | refine inB_o rfl ?_ | refine inB_g ?_ | refine Leads.go (by assumption) ?_) | (with_reducible refine region_k fun K hK => ?_; simp [*]) | (with_reducible refine region_drawT_k mixedO (by decide +kernel) fun K hK => ?_; simp [*]) | (with_reducible refine region_tame_a mixedO (by decide +kernel) fun K hK => ?_; simp [*, Low, isLoadB, isTameB, List.range_succ, List.range']) | (with_reducible refine cond_t ?_ ?_; (focus (simp [*]; done))) | (with_reducible refine cond_f ?_ ?_; (focus (simp [*]; done))))
        refine oK_grow hG ?_ ?_
        · first | (simp; done) | (simp; omega) | omega
        intro d2 H2 hG2 hn2 hH2 hf2
        try simp [*]
        repeat (first | (with_reducible first | refine seq_k fun K hK => ?_ | refine pwp_block ?_ | refine pwp_skip ?_ | refine pwp_ret ?_ | refine pwp_exit ?_ | refine then_n ?_ | refine then_r ?_ | refine then_e ?_ | refine then_g ?_ | refine inB_n ?_ | refine inB_r ?_ | refine inB_e ?_ | refine inB_o rfl ?_ | refine inB_g ?_ | refine Leads.go (by assumption) ?_) | (with_reducible refine region_k fun K hK => ?_; simp [*]) | (with_reducible refine region_drawT_k mixedO (by decide +kernel) fun K hK => ?_; simp [*]) | (with_reducible refine region_tame_a mixedO (by decide +kernel) fun K hK => ?_; simp [*, Low, isLoadB, isTameB, List.range_succ, List.range']) | (with_reducible refine cond_t ?_ ?_; (focus (simp [*]; done))) | (with_reducible refine cond_f ?_ ?_; (focus (simp [*]; done))))
        simp [*]
        have hh : Hold ((ps.take (k + 1)).all okP = true ∧ k + 1 ≤ 16) := ⟨hs, by omega⟩
        first
        | exact ⟨by omega⟩
        | exact ⟨⟨by omega⟩, hG2⟩
        | exact ⟨by simpa using hh, hG2⟩
        | (trace_state; done)
    · have ho' : okP p = false := by simpa using ho
      have hrn : r = none := kp.out.2.1 (.inl (all_not' okP ps k p hp ho'))
      have hfin := kp.out.2.2 hrn
      rw [hfin]
      by_cases hp10 : 10 < (p.length : Int)
      · obtain ⟨o, hrd⟩ : ∃ o, readDigits p = o := ⟨_, rfl⟩
        rw [hrd] at hR
        rcases o with _ | n
        · simp only [rdD, Option.getD, Option.isSome] at hR
          repeat (first | (with_reducible first | refine seq_k fun K hK => ?_ | refine pwp_block ?_ | refine pwp_skip ?_ | refine pwp_ret ?_ | refine pwp_exit ?_ | refine then_n ?_ | refine then_r ?_ | refine then_e ?_ | refine then_g ?_ | refine inB_n ?_ | refine inB_r ?_ | refine inB_e ?_ | refine inB_o rfl ?_ | refine inB_g ?_ | refine Leads.go (by assumption) ?_) | (with_reducible refine region_k fun K hK => ?_; simp [*]) | (with_reducible refine region_drawT_k mixedO (by decide +kernel) fun K hK => ?_; simp [*]) | (with_reducible refine region_tame_a mixedO (by decide +kernel) fun K hK => ?_; simp [*, Low, isLoadB, isTameB, List.range_succ, List.range']) | (with_reducible refine cond_t ?_ ?_; (focus (simp [*]; done))) | (with_reducible refine cond_f ?_ ?_; (focus (simp [*]; done))))
          refine PCalls.mono (hR _) ?_
          intro d3 H3 hd3
          rw [hd3.1, hd3.2]
          clear hd3
          try simp [*]
          try simp [*]
          repeat (first | (with_reducible first | refine seq_k fun K hK => ?_ | refine pwp_block ?_ | refine pwp_skip ?_ | refine pwp_ret ?_ | refine pwp_exit ?_ | refine then_n ?_ | refine then_r ?_ | refine then_e ?_ | refine then_g ?_ | refine inB_n ?_ | refine inB_r ?_ | refine inB_e ?_ | refine inB_o rfl ?_ | refine inB_g ?_ | refine Leads.go (by assumption) ?_) | (with_reducible refine region_k fun K hK => ?_; simp [*]) | (with_reducible refine region_drawT_k mixedO (by decide +kernel) fun K hK => ?_; simp [*]) | (with_reducible refine region_tame_a mixedO (by decide +kernel) fun K hK => ?_; simp [*, Low, isLoadB, isTameB, List.range_succ, List.range']) | (with_reducible refine cond_t ?_ ?_; (focus (simp [*]; done))) | (with_reducible refine cond_f ?_ ?_; (focus (simp [*]; done))))
          simp [*]
          rfl
        · simp only [rdD, Option.getD, Option.isSome] at hR
          repeat (first | (with_reducible first | refine seq_k fun K hK => ?_ | refine pwp_block ?_ | refine pwp_skip ?_ | refine pwp_ret ?_ | refine pwp_exit ?_ | refine then_n ?_ | refine then_r ?_ | refine then_e ?_ | refine then_g ?_ | refine inB_n ?_ | refine inB_r ?_ | refine inB_e ?_ | refine inB_o rfl ?_ | refine inB_g ?_ | refine Leads.go (by assumption) ?_) | (with_reducible refine region_k fun K hK => ?_; simp [*]) | (with_reducible refine region_drawT_k mixedO (by decide +kernel) fun K hK => ?_; simp [*]) | (with_reducible refine region_tame_a mixedO (by decide +kernel) fun K hK => ?_; simp [*, Low, isLoadB, isTameB, List.range_succ, List.range']) | (with_reducible refine cond_t ?_ ?_; (focus (simp [*]; done))) | (with_reducible refine cond_f ?_ ?_; (focus (simp [*]; done))))
          refine PCalls.mono (hR _) ?_
          intro d3 H3 hd3
          rw [hd3.1, hd3.2]
          clear hd3
          try simp [*]
          try simp [*]
          repeat (first | (with_reducible first | refine seq_k fun K hK => ?_ | refine pwp_block ?_ | refine pwp_skip ?_ | refine pwp_ret ?_ | refine pwp_exit ?_ | refine then_n ?_ | refine then_r ?_ | refine then_e ?_ | refine then_g ?_ | refine inB_n ?_ | refine inB_r ?_ | refine inB_e ?_ | refine inB_o rfl ?_ | refine inB_g ?_ | refine Leads.go (by assumption) ?_) | (with_reducible refine region_k fun K hK => ?_; simp [*]) | (with_reducible refine region_drawT_k mixedO (by decide +kernel) fun K hK => ?_; simp [*]) | (with_reducible refine region_tame_a mixedO (by decide +kernel) fun K hK => ?_; simp [*, Low, isLoadB, isTameB, List.range_succ, List.range']) | (with_reducible refine cond_t ?_ ?_; (focus (simp [*]; done))) | (with_reducible refine cond_f ?_ ?_; (focus (simp [*]; done))))
          simp [*]
          rfl
      · have hrd := okP_not ho' (by omega)
        simp only [hrd, rdD, Option.getD, Option.isSome] at hR
        repeat (first | (with_reducible first | refine seq_k fun K hK => ?_ | refine pwp_block ?_ | refine pwp_skip ?_ | refine pwp_ret ?_ | refine pwp_exit ?_ | refine then_n ?_ | refine then_r ?_ | refine then_e ?_ | refine then_g ?_ | refine inB_n ?_ | refine inB_r ?_ | refine inB_e ?_ | refine inB_o rfl ?_ | refine inB_g ?_ | refine Leads.go (by assumption) ?_) | (with_reducible refine region_k fun K hK => ?_; simp [*]) | (with_reducible refine region_drawT_k mixedO (by decide +kernel) fun K hK => ?_; simp [*]) | (with_reducible refine region_tame_a mixedO (by decide +kernel) fun K hK => ?_; simp [*, Low, isLoadB, isTameB, List.range_succ, List.range']) | (with_reducible refine cond_t ?_ ?_; (focus (simp [*]; done))) | (with_reducible refine cond_f ?_ ?_; (focus (simp [*]; done))))
        refine PCalls.mono (hR _) ?_
        intro d3 H3 hd3
        rw [hd3.1, hd3.2]
        clear hd3
        try simp [*]
        try simp [*]
        repeat (first | (with_reducible first | refine seq_k fun K hK => ?_ | refine pwp_block ?_ | refine pwp_skip ?_ | refine pwp_ret ?_ | refine pwp_exit ?_ | refine then_n ?_ | refine then_r ?_ | refine then_e ?_ | refine then_g ?_ | refine inB_n ?_ | refine inB_r ?_ | refine inB_e ?_ | refine inB_o rfl ?_ | refine inB_g ?_ | refine Leads.go (by assumption) ?_) | (with_reducible refine region_k fun K hK => ?_; simp [*]) | (with_reducible refine region_drawT_k mixedO (by decide +kernel) fun K hK => ?_; simp [*]) | (with_reducible refine region_tame_a mixedO (by decide +kernel) fun K hK => ?_; simp [*, Low, isLoadB, isTameB, List.range_succ, List.range']) | (with_reducible refine cond_t ?_ ?_; (focus (simp [*]; done))) | (with_reducible refine cond_f ?_ ?_; (focus (simp [*]; done))))
        simp [*]
        rfl
  · rintro ⟨E, Hx, df⟩ ⟨en, edf, e10, e11, e12, eP⟩
    simp only at en edf e10 e11 e12
    subst edf
    obtain ⟨⟨hall, h16⟩, d, e4, hG⟩ := eP
    simp only [List.take_length] at e4 hG hall
    rw [hall, if_pos rfl] at hdef
    have hlen := lenG144 hG
    rw [List.take_of_length_le (by omega)] at hG hlen
    rw [hNl] at hlen
    rw [← hN] at hG
    clear hno hps hSp hN hNl
    rcases ps with _ | ⟨pa, ps⟩
    · exact absurd hpe (splitB_ne _ _)
    rcases ps with _ | ⟨pb, ps⟩
    · have hrn : r = none := by rw [hdef]; rfl
      rw [hnn hrn]
      simp only [List.length_cons, List.length_nil, Nat.zero_add] at *
      repeat (first | (with_reducible first | refine seq_k fun K hK => ?_ | refine pwp_block ?_ | refine pwp_skip ?_ | refine pwp_ret ?_ | refine pwp_exit ?_ | refine then_n ?_ | refine then_r ?_ | refine then_e ?_ | refine then_g ?_ | refine inB_n ?_ | refine inB_r ?_ | refine inB_e ?_ | refine inB_o rfl ?_ | refine inB_g ?_ | refine Leads.go (by assumption) ?_) | (with_reducible refine region_k fun K hK => ?_; simp [*]) | (with_reducible refine region_drawT_k mixedO (by decide +kernel) fun K hK => ?_; simp [*]) | (with_reducible refine region_tame_a mixedO (by decide +kernel) fun K hK => ?_; simp [*, Low, isLoadB, isTameB, List.range_succ, List.range']) | (with_reducible refine cond_t ?_ ?_; (focus (simp [*]; done))) | (with_reducible refine cond_f ?_ ?_; (focus (simp [*]; done))))
      simp [*]
      rfl
    · rcases hG with ⟨hb, _⟩ | ⟨i, hi, rfl, hgi, _⟩
      · simp at hb
      have hl2 : ¬ ((ps.length : Int) + 1 + 1 < 2) := by omega
      have hl3 : (1 : Int) < (ps.length : Int) + 1 + 1 := by omega
      have hl4 : (0 : Int) < (ps.length : Int) + 1 + 1 := by omega
      simp only [List.map_cons, List.length_cons, List.length_map] at *
      have hr14 : (List.map digVal ps).length ≤ 14 := by simp; omega
      have hao : arcOk (digVal pa :: digVal pb :: List.map digVal ps) = (decide (digVal pa ≤ 2) && (decide (2 ≤ digVal pa) || decide (digVal pb < 40))) := by
        simp only [arcOk, hr14, decide_true, Bool.true_and]
      rw [hao] at hdef
      have hfz : ∀ H : Heap, mapO (fz Try.prog 2 H) (natD (digVal pa) :: natD (digVal pb) :: List.map (fun p => natD (digVal p)) ps) = some (natD (digVal pa) :: natD (digVal pb) :: List.map (fun p => natD (digVal p)) ps) := fun H =>
        fz_vals (fun p : By => .int .i64 ((digVal p : Nat) : Int)) 1 H (pa :: pb :: ps)
      have kp := Hold.mk hfz
      generalize hA : List.map (fun p => natD (digVal p)) ps = A at *
      have hAl : A.length = ps.length := by rw [← hA]; simp
      clear hao hr14 hfz hlen
      generalize digVal pa = a at *
      generalize digVal pb = b at *
      have fin : r = some (a :: b :: List.map digVal ps) → fz Try.prog 4 Hx (.tup [.row i 3 0 (ps.length + 1 + 1), .val (.bool true)]) = some (arcsD (some (a :: b :: List.map digVal ps))) := fun _ => by
        have g : Grow Hx (.row i 3 0 (natD a :: natD b :: A).length) 3 (natD a :: natD b :: A) := .inr ⟨i, hi, rfl, hgi, by simp⟩
        have h2 := fz_two (n := 2) (v := .bool true) (g.fz (kp.out _))
        simp only [List.length_cons, hAl] at h2
        rw [h2, arcsD, frD, if_neg (by simp), ← hA]
        simp
      simp only [natD] at hgi
      by_cases h1 : 2 < (a : Int)
      · have hrn : r = none := by rw [hdef]; simp; omega
        rw [hnn hrn]
        clear hdef hnn
        repeat (first | (with_reducible first | refine seq_k fun K hK => ?_ | refine pwp_block ?_ | refine pwp_skip ?_ | refine pwp_ret ?_ | refine pwp_exit ?_ | refine then_n ?_ | refine then_r ?_ | refine then_e ?_ | refine then_g ?_ | refine inB_n ?_ | refine inB_r ?_ | refine inB_e ?_ | refine inB_o rfl ?_ | refine inB_g ?_ | refine Leads.go (by assumption) ?_) | (with_reducible refine region_k fun K hK => ?_; simp [*]) | (with_reducible refine region_drawT_k mixedO (by decide +kernel) fun K hK => ?_; simp [*]) | (with_reducible refine region_tame_a mixedO (by decide +kernel) fun K hK => ?_; simp [*, Low, isLoadB, isTameB, List.range_succ, List.range']) | (with_reducible refine cond_t ?_ ?_; (focus (simp [*]; done))) | (with_reducible refine cond_f ?_ ?_; (focus (simp [*]; done))))
        simp [*]
        rfl
      · by_cases h2 : (a : Int) < 2
        · by_cases h3 : 40 ≤ (b : Int)
          · have hrn : r = none := by rw [hdef]; simp; omega
            rw [hnn hrn]
            clear hdef hnn
            repeat (first | (with_reducible first | refine seq_k fun K hK => ?_ | refine pwp_block ?_ | refine pwp_skip ?_ | refine pwp_ret ?_ | refine pwp_exit ?_ | refine then_n ?_ | refine then_r ?_ | refine then_e ?_ | refine then_g ?_ | refine inB_n ?_ | refine inB_r ?_ | refine inB_e ?_ | refine inB_o rfl ?_ | refine inB_g ?_ | refine Leads.go (by assumption) ?_) | (with_reducible refine region_k fun K hK => ?_; simp [*]) | (with_reducible refine region_drawT_k mixedO (by decide +kernel) fun K hK => ?_; simp [*]) | (with_reducible refine region_tame_a mixedO (by decide +kernel) fun K hK => ?_; simp [*, Low, isLoadB, isTameB, List.range_succ, List.range']) | (with_reducible refine cond_t ?_ ?_; (focus (simp [*]; done))) | (with_reducible refine cond_f ?_ ?_; (focus (simp [*]; done))))
            simp [*]
            rfl
          · have hrs : r = some (a :: b :: List.map digVal ps) := by rw [hdef, if_pos]; simp; omega
            clear hdef hnn
            repeat (first | (with_reducible first | refine seq_k fun K hK => ?_ | refine pwp_block ?_ | refine pwp_skip ?_ | refine pwp_ret ?_ | refine pwp_exit ?_ | refine then_n ?_ | refine then_r ?_ | refine then_e ?_ | refine then_g ?_ | refine inB_n ?_ | refine inB_r ?_ | refine inB_e ?_ | refine inB_o rfl ?_ | refine inB_g ?_ | refine Leads.go (by assumption) ?_) | (with_reducible refine region_k fun K hK => ?_; simp [*]) | (with_reducible refine region_drawT_k mixedO (by decide +kernel) fun K hK => ?_; simp [*]) | (with_reducible refine region_tame_a mixedO (by decide +kernel) fun K hK => ?_; simp [*, Low, isLoadB, isTameB, List.range_succ, List.range']) | (with_reducible refine cond_t ?_ ?_; (focus (simp [*]; done))) | (with_reducible refine cond_f ?_ ?_; (focus (simp [*]; done))))
            simp [*]
            try exact fin hrs
        · have hrs : r = some (a :: b :: List.map digVal ps) := by rw [hdef, if_pos]; simp; omega
          clear hdef hnn
          repeat (first | (with_reducible first | refine seq_k fun K hK => ?_ | refine pwp_block ?_ | refine pwp_skip ?_ | refine pwp_ret ?_ | refine pwp_exit ?_ | refine then_n ?_ | refine then_r ?_ | refine then_e ?_ | refine then_g ?_ | refine inB_n ?_ | refine inB_r ?_ | refine inB_e ?_ | refine inB_o rfl ?_ | refine inB_g ?_ | refine Leads.go (by assumption) ?_) | (with_reducible refine region_k fun K hK => ?_; simp [*]) | (with_reducible refine region_drawT_k mixedO (by decide +kernel) fun K hK => ?_; simp [*]) | (with_reducible refine region_tame_a mixedO (by decide +kernel) fun K hK => ?_; simp [*, Low, isLoadB, isTameB, List.range_succ, List.range']) | (with_reducible refine cond_t ?_ ?_; (focus (simp [*]; done))) | (with_reducible refine cond_f ?_ ?_; (focus (simp [*]; done))))
          simp [*]
          try exact fin hrs
set_option maxRecDepth 100000 in
theorem arcs_spec (l : By) (hl : l.length ≤ 100000) (H : Heap) : PCalls Try.prog 118 [sD l] H fun d H' => d = arcsD (arcsM l) ∧ H' = H :=
  PCalls.liftG (PCalls.frozen (arcs_local l hl)) (fun d hd => by
    simp only [List.mem_cons, List.mem_nil_iff, or_false] at hd
    subst hd; exact .val _) (pure_arcs _) H
set_option maxHeartbeats 4000000 in
set_option maxRecDepth 100000 in
theorem Numeric_spec (l : By) (hl : l.length ≤ 100000) (H : Heap) : PCalls Try.prog 115 [sD l] H fun d H' => d = .val (.bool (arcsM l).isSome) ∧ H' = H := by
  refine PCalls.of_pwp Try.call115 Try.func115 rfl (by simp [Try.ntmps115]) ?_
  rw [Try.ntmps115]
  have hA := arcs_spec l hl
  rcases hr : arcsM l with _ | L
  · rw [hr] at hA
    simp only [arcsD] at hA
    repeat (first | (with_reducible first | refine seq_k fun K hK => ?_ | refine pwp_block ?_ | refine pwp_skip ?_ | refine pwp_ret ?_ | refine pwp_exit ?_ | refine then_n ?_ | refine then_r ?_ | refine then_e ?_ | refine then_g ?_ | refine inB_n ?_ | refine inB_r ?_ | refine inB_e ?_ | refine inB_o rfl ?_ | refine inB_g ?_ | refine Leads.go (by assumption) ?_) | (with_reducible refine region_k fun K hK => ?_; simp [*]) | (with_reducible refine region_drawT_k mixedO (by decide +kernel) fun K hK => ?_; simp [*]) | (with_reducible refine region_tame_a mixedO (by decide +kernel) fun K hK => ?_; simp [*, Low, isLoadB, isTameB, List.range_succ, List.range']) | (with_reducible refine cond_t ?_ ?_; (focus (simp [*]; done))) | (with_reducible refine cond_f ?_ ?_; (focus (simp [*]; done))))
    refine PCalls.mono (hA _) ?_
    intro d3 H3 hd3
    rw [hd3.1, hd3.2]
    clear hd3
    try simp [*]
    repeat (first | (with_reducible first | refine seq_k fun K hK => ?_ | refine pwp_block ?_ | refine pwp_skip ?_ | refine pwp_ret ?_ | refine pwp_exit ?_ | refine then_n ?_ | refine then_r ?_ | refine then_e ?_ | refine then_g ?_ | refine inB_n ?_ | refine inB_r ?_ | refine inB_e ?_ | refine inB_o rfl ?_ | refine inB_g ?_ | refine Leads.go (by assumption) ?_) | (with_reducible refine region_k fun K hK => ?_; simp [*]) | (with_reducible refine region_drawT_k mixedO (by decide +kernel) fun K hK => ?_; simp [*]) | (with_reducible refine region_tame_a mixedO (by decide +kernel) fun K hK => ?_; simp [*, Low, isLoadB, isTameB, List.range_succ, List.range']) | (with_reducible refine cond_t ?_ ?_; (focus (simp [*]; done))) | (with_reducible refine cond_f ?_ ?_; (focus (simp [*]; done))))
    simp [*]
  · rw [hr] at hA
    simp only [arcsD] at hA
    repeat (first | (with_reducible first | refine seq_k fun K hK => ?_ | refine pwp_block ?_ | refine pwp_skip ?_ | refine pwp_ret ?_ | refine pwp_exit ?_ | refine then_n ?_ | refine then_r ?_ | refine then_e ?_ | refine then_g ?_ | refine inB_n ?_ | refine inB_r ?_ | refine inB_e ?_ | refine inB_o rfl ?_ | refine inB_g ?_ | refine Leads.go (by assumption) ?_) | (with_reducible refine region_k fun K hK => ?_; simp [*]) | (with_reducible refine region_drawT_k mixedO (by decide +kernel) fun K hK => ?_; simp [*]) | (with_reducible refine region_tame_a mixedO (by decide +kernel) fun K hK => ?_; simp [*, Low, isLoadB, isTameB, List.range_succ, List.range']) | (with_reducible refine cond_t ?_ ?_; (focus (simp [*]; done))) | (with_reducible refine cond_f ?_ ?_; (focus (simp [*]; done))))
    refine PCalls.mono (hA _) ?_
    intro d3 H3 hd3
    rw [hd3.1, hd3.2]
    clear hd3
    try simp [*]
    repeat (first | (with_reducible first | refine seq_k fun K hK => ?_ | refine pwp_block ?_ | refine pwp_skip ?_ | refine pwp_ret ?_ | refine pwp_exit ?_ | refine then_n ?_ | refine then_r ?_ | refine then_e ?_ | refine then_g ?_ | refine inB_n ?_ | refine inB_r ?_ | refine inB_e ?_ | refine inB_o rfl ?_ | refine inB_g ?_ | refine Leads.go (by assumption) ?_) | (with_reducible refine region_k fun K hK => ?_; simp [*]) | (with_reducible refine region_drawT_k mixedO (by decide +kernel) fun K hK => ?_; simp [*]) | (with_reducible refine region_tame_a mixedO (by decide +kernel) fun K hK => ?_; simp [*, Low, isLoadB, isTameB, List.range_succ, List.range']) | (with_reducible refine cond_t ?_ ?_; (focus (simp [*]; done))) | (with_reducible refine cond_f ?_ ?_; (focus (simp [*]; done))))
    simp [*]
end Go.Pv
