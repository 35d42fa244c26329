/- A part of the proof: functions of the program, walked, or what operations come to. -/
import Derived.Test.YtmaajijhfpdefaaPvS21
import Derived.Test.YtmaajijhfpdefaaPvS11
namespace Go.Pv
open Go.Proofs
attribute [local simp] Try.underlying29 Heap.new_get Heap.put_get strD eBuildSlice
@[simp] theorem res6 : Try.f6.results.toList = [.tmp 4] := rfl
def topB : ByteArray := ⟨#[116, 111, 112]⟩
theorem t1 : okAll [topB] = true ∧ [topB].map fcls = [0] ∧ oneB [0] = false := by decide +kernel
theorem top_check : checkR [topB] [] = 16 := by
  obtain ⟨h1, h2, h3⟩ := t1
  rw [checkR, if_pos h1, h2, checkV, h3]
  rfl
theorem Check_top (H : Heap) : PCalls Try.prog 22 [.row H.nx 9 0 1, .slice 1 0 []] (H.new (.row 9 [.val (.string ⟨#[116, 111, 112]⟩)])) fun r H' => r = .val (.int .i64 16) := by
  have ho : Own (H.new (.row 9 [strD topB])) (.row H.nx 9 0 1) ([topB].map strD) := ⟨H.nx, by simp, rfl, Heap.new_same _ _⟩
  refine PCalls.thaw (k := 20) (ds' := [.slice (if [topB].length = 0 then 3 else 0) 9 ([topB].map strD), .slice 1 0 ([].map strD)]) (by rw [mapO, show fz Try.prog 20 (H.new (.row 9 [.val (.string ⟨#[116, 111, 112]⟩)])) (.row H.nx 9 0 1) = _ from fz_own 18 ho]; rfl) ?_
  refine PCalls.mono (Check_spec _ 1 9 0 [topB] [] (.inr rfl) (.inl rfl) (fun s hs => by simp only [List.mem_singleton] at hs; subst hs; decide) (fun s hs => by cases hs) (by decide) (by decide) _) ?_
  rintro r _ ⟨h, _⟩
  rw [h, top_check]
set_option maxHeartbeats 8000000 in
set_option maxRecDepth 100000 in
theorem SchemaChecks_walk (g1 : Nat) (l : List ByteArray) (g2 : Nat) (m : List ByteArray) : PCalls Try.prog 6 [.slice g1 9 (l.map strD), .slice g2 9 (m.map strD)] (noHeap noG) fun d _ => d = .val (.bool true) := by
  refine PCalls.of_pwp Try.call6 Try.func6 rfl (by simp [Try.ntmps6]) ?_
  rw [Try.ntmps6]
  have hfew1 := few_spec g1 9 l (.inr rfl)
  have hfew2 := few_spec g2 9 m (.inr rfl)
  by_cases h1 : fs l ≤ 600
  · by_cases h2 : fs m ≤ 600
    · obtain ⟨n1, s1⟩ := fs_size h1
      obtain ⟨n2, s2⟩ := fs_size h2
      have s1' : ∀ s ∈ l, s.size ≤ 140737488351232 := fun s hs => by have := s1 s hs; omega
      have s2' : ∀ s ∈ m, s.size ≤ 140737488351232 := fun s hs => by have := s2 s hs; omega
      have hA := All_spec g1 9 l (.inr rfl) s1' (by omega)
      have hB := AllR_spec g1 9 l (.inr rfl) s1' (by omega)
      have hC := Check_spec g1 g2 9 9 l m (.inr rfl) (.inr rfl) s1' s2' (by omega) (by omega)
      have hD := CheckR_spec g1 g2 9 9 l m (.inr rfl) (.inr rfl) s1' s2' (by omega) (by omega)
      clear s1 s2 s1' s2'
      generalize hLL : l.map strD = LL at *
      generalize hLM : m.map strD = LM at *
      generalize checkR l m = cr at *
      clear hLL hLM
      repeat (first | with_reducible refine seq_k fun K hK => ?_ | (with_reducible refine region_k fun K hK => ?_; simp [*]) | (with_reducible refine region_draw_k mixedO (by decide +kernel) fun K hK => ?_; simp [*]) | with_reducible refine pwp_block ?_ | with_reducible refine pwp_skip ?_ | with_reducible refine pwp_ret ?_ | with_reducible refine pwp_exit ?_ | (with_reducible refine cond_t ?_ ?_; (focus (simp [*]; done))) | (with_reducible refine cond_f ?_ ?_; (focus (simp [*]; done))) | with_reducible refine then_n ?_ | with_reducible refine then_r ?_ | with_reducible refine then_e ?_ | with_reducible refine then_g ?_ | with_reducible refine inB_n ?_ | with_reducible refine inB_r ?_ | with_reducible refine inB_e ?_ | with_reducible refine inB_o rfl ?_ | with_reducible refine inB_g ?_ | with_reducible refine Leads.go (by assumption) ?_)
      refine PCalls.mono (hfew1 _) ?_
      rintro _ _ ⟨rfl, rfl⟩
      clear hfew1
      simp [*]
      refine PCalls.mono (hfew2 _) ?_
      rintro _ _ ⟨rfl, rfl⟩
      clear hfew2
      simp [*]
      repeat (first | with_reducible refine seq_k fun K hK => ?_ | (with_reducible refine region_k fun K hK => ?_; simp [*]) | (with_reducible refine region_draw_k mixedO (by decide +kernel) fun K hK => ?_; simp [*]) | with_reducible refine pwp_block ?_ | with_reducible refine pwp_skip ?_ | with_reducible refine pwp_ret ?_ | with_reducible refine pwp_exit ?_ | (with_reducible refine cond_t ?_ ?_; (focus (simp [*]; done))) | (with_reducible refine cond_f ?_ ?_; (focus (simp [*]; done))) | with_reducible refine then_n ?_ | with_reducible refine then_r ?_ | with_reducible refine then_e ?_ | with_reducible refine then_g ?_ | with_reducible refine inB_n ?_ | with_reducible refine inB_r ?_ | with_reducible refine inB_e ?_ | with_reducible refine inB_o rfl ?_ | with_reducible refine inB_g ?_ | with_reducible refine Leads.go (by assumption) ?_)
      refine PCalls.mono (hA _) ?_
      intro r1 H1 hr1
      obtain ⟨a1, b1, a2, b2, U, V, n, e1, q1, q2, l1, l2, hU⟩ := AllRes.form hr1.1
      rw [e1, hr1.2]
      clear hr1 hA e1
      simp [*]
      repeat (first | with_reducible refine seq_k fun K hK => ?_ | (with_reducible refine region_k fun K hK => ?_; simp [*]) | (with_reducible refine region_draw_k mixedO (by decide +kernel) fun K hK => ?_; simp [*]) | with_reducible refine pwp_block ?_ | with_reducible refine pwp_skip ?_ | with_reducible refine pwp_ret ?_ | with_reducible refine pwp_exit ?_ | (with_reducible refine cond_t ?_ ?_; (focus (simp [*]; done))) | (with_reducible refine cond_f ?_ ?_; (focus (simp [*]; done))) | with_reducible refine then_n ?_ | with_reducible refine then_r ?_ | with_reducible refine then_e ?_ | with_reducible refine then_g ?_ | with_reducible refine inB_n ?_ | with_reducible refine inB_r ?_ | with_reducible refine inB_e ?_ | with_reducible refine inB_o rfl ?_ | with_reducible refine inB_g ?_ | with_reducible refine Leads.go (by assumption) ?_)
      refine PCalls.mono (hB _) ?_
      intro r2 H2 hr2
      obtain ⟨a3, b3, a4, b4, U2, V2, n2', e2, q3, q4, l3, l4, hU2⟩ := AllRes.form hr2.1
      rw [e2, hr2.2]
      clear hr2 hB e2
      have heq : U2 = U ∧ V2 = V ∧ n2' = n := by
        rcases hU with ⟨o1, x1, x2, x3⟩ | ⟨o1, x1, x2, x3⟩ <;> rcases hU2 with ⟨o2, y1, y2, y3⟩ | ⟨o2, y1, y2, y3⟩
        · exact ⟨y2.trans x2.symm, y3.trans x3.symm, y1.trans x1.symm⟩
        · rw [o1] at o2; cases o2
        · rw [o1] at o2; cases o2
        · exact ⟨y2.trans x2.symm, y3.trans x3.symm, y1.trans x1.symm⟩
      clear hU hU2
      rw [heq.1] at q3 ⊢
      rw [heq.2.1] at q4 ⊢
      rw [heq.2.2]
      clear heq l3 l4
      have hs1 := same_spec a1 b1 U a3 b3 U q1 q3 (by omega) (by omega)
      have hs2 := same_spec a2 b2 V a4 b4 V q2 q4 (by omega) (by omega)
      rw [decide_eq_true (rfl : U = U)] at hs1
      rw [decide_eq_true (rfl : V = V)] at hs2
      clear q1 q2 q3 q4 l1 l2
      simp [*]
      repeat (first | with_reducible refine seq_k fun K hK => ?_ | (with_reducible refine region_k fun K hK => ?_; simp [*]) | (with_reducible refine region_draw_k mixedO (by decide +kernel) fun K hK => ?_; simp [*]) | with_reducible refine pwp_block ?_ | with_reducible refine pwp_skip ?_ | with_reducible refine pwp_ret ?_ | with_reducible refine pwp_exit ?_ | (with_reducible refine cond_t ?_ ?_; (focus (simp [*]; done))) | (with_reducible refine cond_f ?_ ?_; (focus (simp [*]; done))) | with_reducible refine then_n ?_ | with_reducible refine then_r ?_ | with_reducible refine then_e ?_ | with_reducible refine then_g ?_ | with_reducible refine inB_n ?_ | with_reducible refine inB_r ?_ | with_reducible refine inB_e ?_ | with_reducible refine inB_o rfl ?_ | with_reducible refine inB_g ?_ | with_reducible refine Leads.go (by assumption) ?_)
      refine PCalls.mono (hs1 _) ?_
      intro d3 H3 hd3
      rw [hd3.1, hd3.2]
      clear hd3 hs1
      try simp [*]
      refine PCalls.mono (hs2 _) ?_
      intro d3 H3 hd3
      rw [hd3.1, hd3.2]
      clear hd3 hs2
      try simp [*]
      refine PCalls.mono (hC _) ?_
      intro d3 H3 hd3
      rw [hd3.1, hd3.2]
      clear hd3 hC
      try simp [*]
      refine PCalls.mono (hD _) ?_
      intro d3 H3 hd3
      rw [hd3.1, hd3.2]
      clear hd3 hD
      try simp [*]
      refine PCalls.mono (Check_top _) ?_
      intro d3 H3 hd3
      rw [hd3]
      clear hd3
      try simp [*]
      repeat (first | with_reducible refine seq_k fun K hK => ?_ | (with_reducible refine region_k fun K hK => ?_; simp [*]) | (with_reducible refine region_draw_k mixedO (by decide +kernel) fun K hK => ?_; simp [*]) | with_reducible refine pwp_block ?_ | with_reducible refine pwp_skip ?_ | with_reducible refine pwp_ret ?_ | with_reducible refine pwp_exit ?_ | (with_reducible refine cond_t ?_ ?_; (focus (simp [*]; done))) | (with_reducible refine cond_f ?_ ?_; (focus (simp [*]; done))) | with_reducible refine then_n ?_ | with_reducible refine then_r ?_ | with_reducible refine then_e ?_ | with_reducible refine then_g ?_ | with_reducible refine inB_n ?_ | with_reducible refine inB_r ?_ | with_reducible refine inB_e ?_ | with_reducible refine inB_o rfl ?_ | with_reducible refine inB_g ?_ | with_reducible refine Leads.go (by assumption) ?_)
      simp [*]
    · repeat (first | with_reducible refine seq_k fun K hK => ?_ | (with_reducible refine region_k fun K hK => ?_; simp [*]) | (with_reducible refine region_draw_k mixedO (by decide +kernel) fun K hK => ?_; simp [*]) | with_reducible refine pwp_block ?_ | with_reducible refine pwp_skip ?_ | with_reducible refine pwp_ret ?_ | with_reducible refine pwp_exit ?_ | (with_reducible refine cond_t ?_ ?_; (focus (simp [*]; done))) | (with_reducible refine cond_f ?_ ?_; (focus (simp [*]; done))) | with_reducible refine then_n ?_ | with_reducible refine then_r ?_ | with_reducible refine then_e ?_ | with_reducible refine then_g ?_ | with_reducible refine inB_n ?_ | with_reducible refine inB_r ?_ | with_reducible refine inB_e ?_ | with_reducible refine inB_o rfl ?_ | with_reducible refine inB_g ?_ | with_reducible refine Leads.go (by assumption) ?_)
      refine PCalls.mono (hfew1 _) ?_
      rintro _ _ ⟨rfl, rfl⟩
      simp [*]
      refine PCalls.mono (hfew2 _) ?_
      rintro _ _ ⟨rfl, rfl⟩
      simp [*]
      repeat (first | with_reducible refine seq_k fun K hK => ?_ | (with_reducible refine region_k fun K hK => ?_; simp [*]) | (with_reducible refine region_draw_k mixedO (by decide +kernel) fun K hK => ?_; simp [*]) | with_reducible refine pwp_block ?_ | with_reducible refine pwp_skip ?_ | with_reducible refine pwp_ret ?_ | with_reducible refine pwp_exit ?_ | (with_reducible refine cond_t ?_ ?_; (focus (simp [*]; done))) | (with_reducible refine cond_f ?_ ?_; (focus (simp [*]; done))) | with_reducible refine then_n ?_ | with_reducible refine then_r ?_ | with_reducible refine then_e ?_ | with_reducible refine then_g ?_ | with_reducible refine inB_n ?_ | with_reducible refine inB_r ?_ | with_reducible refine inB_e ?_ | with_reducible refine inB_o rfl ?_ | with_reducible refine inB_g ?_ | with_reducible refine Leads.go (by assumption) ?_)
      simp [*]
  · repeat (first | with_reducible refine seq_k fun K hK => ?_ | (with_reducible refine region_k fun K hK => ?_; simp [*]) | (with_reducible refine region_draw_k mixedO (by decide +kernel) fun K hK => ?_; simp [*]) | with_reducible refine pwp_block ?_ | with_reducible refine pwp_skip ?_ | with_reducible refine pwp_ret ?_ | with_reducible refine pwp_exit ?_ | (with_reducible refine cond_t ?_ ?_; (focus (simp [*]; done))) | (with_reducible refine cond_f ?_ ?_; (focus (simp [*]; done))) | with_reducible refine then_n ?_ | with_reducible refine then_r ?_ | with_reducible refine then_e ?_ | with_reducible refine then_g ?_ | with_reducible refine inB_n ?_ | with_reducible refine inB_r ?_ | with_reducible refine inB_e ?_ | with_reducible refine inB_o rfl ?_ | with_reducible refine inB_g ?_ | with_reducible refine Leads.go (by assumption) ?_)
    refine PCalls.mono (hfew1 _) ?_
    rintro _ _ ⟨rfl, rfl⟩
    simp [*]
    repeat (first | with_reducible refine seq_k fun K hK => ?_ | (with_reducible refine region_k fun K hK => ?_; simp [*]) | (with_reducible refine region_draw_k mixedO (by decide +kernel) fun K hK => ?_; simp [*]) | with_reducible refine pwp_block ?_ | with_reducible refine pwp_skip ?_ | with_reducible refine pwp_ret ?_ | with_reducible refine pwp_exit ?_ | (with_reducible refine cond_t ?_ ?_; (focus (simp [*]; done))) | (with_reducible refine cond_f ?_ ?_; (focus (simp [*]; done))) | with_reducible refine then_n ?_ | with_reducible refine then_r ?_ | with_reducible refine then_e ?_ | with_reducible refine then_g ?_ | with_reducible refine inB_n ?_ | with_reducible refine inB_r ?_ | with_reducible refine inB_e ?_ | with_reducible refine inB_o rfl ?_ | with_reducible refine inB_g ?_ | with_reducible refine Leads.go (by assumption) ?_)
    simp [*]
end Go.Pv
