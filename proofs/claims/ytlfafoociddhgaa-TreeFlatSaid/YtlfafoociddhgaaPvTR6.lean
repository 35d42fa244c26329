/- A part of the proof: functions of the program, walked, or what operations come to. -/
import Derived.Test.YtlfafoociddhgaaPvTR5
import Derived.Test.YtlfafoociddhgaaPvApp
import Derived.KernelRfl
-- ZpvTameA ZpvDrawT
namespace Go.Pv
open Go.Proofs
attribute [local simp] Try.underlying3 Try.underlying4 Try.underlying5 Try.underlying9 Try.underlying23 Try.underlying25 Try.underlying33 Try.underlying62 Try.underlying71 Heap.new_get Heap.put_get strD fillD
theorem byteAt_of {l : List UInt8} {k : Nat} {c : UInt8} (h : l[k]? = some c) : byteAt l k = (c.toNat : Int) := by simp [byteAt, List.getD, h]
/-! ### Split and Order of a name of one level -/
def plainS (s : ByteArray) : Prop := ∀ b ∈ s.data.toList, b.toNat ≠ 92 ∧ b.toNat ≠ 44
@[simp] theorem res15 : Try.f15.results.toList = [.tmp 2, .tmp 3] := rfl
set_option maxHeartbeats 4000000 in
set_option maxRecDepth 100000 in
theorem split1_spec (s : ByteArray) (hp : plainS s) (hs : s.size ≤ 1000) (H : Heap) : PCalls Try.prog 15 [strD s] H fun d H' => d = .tup [strD s, strD ⟨#[]⟩] ∧ H' = H := by
  refine PCalls.of_pwp Try.call15 Try.func15 rfl (by simp [Try.ntmps15]) ?_
  rw [Try.ntmps15]
  repeat (first | with_reducible refine seq_k fun K hK => ?_ | (with_reducible refine region_k fun K hK => ?_; simp [*]) | (with_reducible refine region_drawT_k mixedO (by decide +kernel) fun K hK => ?_; simp [*]) | (with_reducible refine region_tame_a mixedO (by decide +kernel) fun K hK => ?_; simp [*, Low, isLoadB, isTameB, List.range_succ, List.range']) | with_reducible refine pwp_block ?_ | with_reducible refine pwp_skip ?_ | with_reducible refine pwp_ret ?_ | with_reducible refine pwp_exit ?_ | (with_reducible refine cond_t ?_ ?_; (focus (simp [*]; done))) | (with_reducible refine cond_f ?_ ?_; (focus (simp [*]; done))) | with_reducible refine then_n ?_ | with_reducible refine then_r ?_ | with_reducible refine then_e ?_ | with_reducible refine then_g ?_ | with_reducible refine inB_n ?_ | with_reducible refine inB_r ?_ | with_reducible refine inB_e ?_ | with_reducible refine inB_o rfl ?_ | with_reducible refine inB_g ?_ | with_reducible refine Leads.go (by assumption) ?_)
  refine pwp_loop (fun m st => ∃ k, k ≤ s.size ∧ m = s.size - k ∧ st.env.n = 29 ∧ st.df = [] ∧ st.H = H ∧ st.env.get 0 = strD s ∧ st.env.get 4 = .val (.int .i64 (k : Nat))) s.size ⟨0, by omega, by omega, by simp, rfl, rfl, by simp, by simp⟩ ?_
  rintro m ⟨E, H2, df⟩ ⟨k, hk, rfl, en, edf, eH, e0, e4⟩
  simp only at en edf eH e0 e4
  subst edf; subst eH
  by_cases h : k < s.size
  · have hk' : k < s.data.toList.length := by simpa using h
    have hki : (k : Int) < (s.size : Int) := by omega
    have hb := hp _ (List.getElem_mem hk')
    obtain ⟨c, hc⟩ : ∃ c, s.data.toList[k] = c := ⟨_, rfl⟩
    rw [hc] at hb
    have hw := wrapSucc k (by omega)
    have hB : byteAt s.data.toList k = (c.toNat : Int) := byteAt_of (by rw [List.getElem?_eq_getElem hk', hc])
    have hb1 : ¬ byteAt s.data.toList k = 92 := by rw [hB]; omega
    have hb2 : ¬ byteAt s.data.toList k = 44 := by rw [hB]; omega
    clear hB hc hb
    have hb4 : byteAt [44] 0 = 44 := rfl
    repeat (first | with_reducible refine seq_k fun K hK => ?_ | (with_reducible refine region_k fun K hK => ?_; simp [*]) | (with_reducible refine region_drawT_k mixedO (by decide +kernel) fun K hK => ?_; simp [*]) | (with_reducible refine region_tame_a mixedO (by decide +kernel) fun K hK => ?_; simp [*, Low, isLoadB, isTameB, List.range_succ, List.range']) | with_reducible refine pwp_block ?_ | with_reducible refine pwp_skip ?_ | with_reducible refine pwp_ret ?_ | with_reducible refine pwp_exit ?_ | (with_reducible refine cond_t ?_ ?_; (focus (simp [*]; done))) | (with_reducible refine cond_f ?_ ?_; (focus (simp [*]; done))) | with_reducible refine then_n ?_ | with_reducible refine then_r ?_ | with_reducible refine then_e ?_ | with_reducible refine then_g ?_ | with_reducible refine inB_n ?_ | with_reducible refine inB_r ?_ | with_reducible refine inB_e ?_ | with_reducible refine inB_o rfl ?_ | with_reducible refine inB_g ?_ | with_reducible refine Leads.go (by assumption) ?_)
    refine ⟨s.size - (k + 1), by omega, k + 1, by omega, rfl, by simp [*], rfl, rfl, by simp [*], by simp [*]⟩
  · have hks : k = s.size := by omega
    subst hks
    repeat (first | with_reducible refine seq_k fun K hK => ?_ | (with_reducible refine region_k fun K hK => ?_; simp [*]) | (with_reducible refine region_drawT_k mixedO (by decide +kernel) fun K hK => ?_; simp [*]) | (with_reducible refine region_tame_a mixedO (by decide +kernel) fun K hK => ?_; simp [*, Low, isLoadB, isTameB, List.range_succ, List.range']) | with_reducible refine pwp_block ?_ | with_reducible refine pwp_skip ?_ | with_reducible refine pwp_ret ?_ | with_reducible refine pwp_exit ?_ | (with_reducible refine cond_t ?_ ?_; (focus (simp [*]; done))) | (with_reducible refine cond_f ?_ ?_; (focus (simp [*]; done))) | with_reducible refine then_n ?_ | with_reducible refine then_r ?_ | with_reducible refine then_e ?_ | with_reducible refine then_g ?_ | with_reducible refine inB_n ?_ | with_reducible refine inB_r ?_ | with_reducible refine inB_e ?_ | with_reducible refine inB_o rfl ?_ | with_reducible refine inB_g ?_ | with_reducible refine Leads.go (by assumption) ?_)
    simp [*]
/-! ### Reverse and Join of a row of one -/
@[simp] theorem res35 : Try.f35.results.toList = [] := rfl
@[simp] theorem res36 : Try.f36.results.toList = [.tmp 4] := rfl
@[simp] theorem res23 : Try.f23.results.toList = [.tmp 2] := rfl
def ord1 (s : ByteArray) : ByteArray := ⟨(s.data.toList ++ [1]).toArray⟩
@[simp] theorem zd9 : zeroD Try.prog 9 = some [.val (.string ⟨#[]⟩)] := by kernel_rfl
set_option maxRecDepth 100000 in
@[simp ↓] theorem append71 (s x : D) (H : Heap) : eAppend Try.prog 71 71 s x H = appK 9 16 s (news Try.prog H 9 71 x) H := eAppend_of Try.underlying71 (show Try.prog.info? 9 = some Try.t9 from rfl) (show Try.t9.zero = some _ from rfl) (by kernel_rfl) (by decide) (by decide) (by kernel_rfl) s x H
attribute [local simp] appK eBuildSlice
set_option maxHeartbeats 4000000 in
set_option maxRecDepth 100000 in
theorem reverse1_spec (i : Nat) (x : D) (H : Heap) (hi : H.get i = some (.row 9 [x])) : PCalls Try.prog 35 [.row i 9 0 1] H fun d H' => d = .tup [] ∧ H' = H := by
  refine PCalls.of_pwp Try.call35 Try.func35 rfl (by simp [Try.ntmps35]) ?_
  rw [Try.ntmps35]
  repeat (first | with_reducible refine seq_k fun K hK => ?_ | (with_reducible refine region_k fun K hK => ?_; simp [*]) | (with_reducible refine region_drawT_k mixedO (by decide +kernel) fun K hK => ?_; simp [*]) | (with_reducible refine region_tame_a mixedO (by decide +kernel) fun K hK => ?_; simp [*, Low, isLoadB, isTameB, List.range_succ, List.range']) | with_reducible refine pwp_block ?_ | with_reducible refine pwp_skip ?_ | with_reducible refine pwp_ret ?_ | with_reducible refine pwp_exit ?_ | (with_reducible refine cond_t ?_ ?_; (focus (simp [*]; done))) | (with_reducible refine cond_f ?_ ?_; (focus (simp [*]; done))) | with_reducible refine then_n ?_ | with_reducible refine then_r ?_ | with_reducible refine then_e ?_ | with_reducible refine then_g ?_ | with_reducible refine inB_n ?_ | with_reducible refine inB_r ?_ | with_reducible refine inB_e ?_ | with_reducible refine inB_o rfl ?_ | with_reducible refine inB_g ?_ | with_reducible refine Leads.go (by assumption) ?_)
  refine pwp_loop (fun m st => m = 0 ∧ st.env.n = 28 ∧ st.df = [] ∧ st.H = H ∧ st.env.get 0 = .row i 9 0 1 ∧ st.env.get 2 = .val (.int .i64 0) ∧ st.env.get 3 = .val (.int .i64 0)) 0 ⟨rfl, by simp, rfl, rfl, by simp, by simp, by simp; rfl⟩ ?_
  rintro m ⟨E, H2, df⟩ ⟨rfl, en, edf, eH, e0, e2, e3⟩
  simp only at en edf eH e0 e2 e3
  subst edf; subst eH
  repeat (first | with_reducible refine seq_k fun K hK => ?_ | (with_reducible refine region_k fun K hK => ?_; simp [*]) | (with_reducible refine region_drawT_k mixedO (by decide +kernel) fun K hK => ?_; simp [*]) | (with_reducible refine region_tame_a mixedO (by decide +kernel) fun K hK => ?_; simp [*, Low, isLoadB, isTameB, List.range_succ, List.range']) | with_reducible refine pwp_block ?_ | with_reducible refine pwp_skip ?_ | with_reducible refine pwp_ret ?_ | with_reducible refine pwp_exit ?_ | (with_reducible refine cond_t ?_ ?_; (focus (simp [*]; done))) | (with_reducible refine cond_f ?_ ?_; (focus (simp [*]; done))) | with_reducible refine then_n ?_ | with_reducible refine then_r ?_ | with_reducible refine then_e ?_ | with_reducible refine then_g ?_ | with_reducible refine inB_n ?_ | with_reducible refine inB_r ?_ | with_reducible refine inB_e ?_ | with_reducible refine inB_o rfl ?_ | with_reducible refine inB_g ?_ | with_reducible refine Leads.go (by assumption) ?_)
  simp [*]
set_option maxHeartbeats 4000000 in
set_option maxRecDepth 100000 in
theorem join1_spec (i : Nat) (s : ByteArray) (H : Heap) (hi : H.get i = some (.row 9 [strD s])) : PCalls Try.prog 36 [.row i 9 0 1, strD ⟨#[]⟩] H fun d H' => d = strD s ∧ H' = H := by
  refine PCalls.of_pwp Try.call36 Try.func36 rfl (by simp [Try.ntmps36]) ?_
  rw [Try.ntmps36]
  repeat (first | with_reducible refine seq_k fun K hK => ?_ | (with_reducible refine region_k fun K hK => ?_; simp [*]) | (with_reducible refine region_drawT_k mixedO (by decide +kernel) fun K hK => ?_; simp [*]) | (with_reducible refine region_tame_a mixedO (by decide +kernel) fun K hK => ?_; simp [*, Low, isLoadB, isTameB, List.range_succ, List.range']) | with_reducible refine pwp_block ?_ | with_reducible refine pwp_skip ?_ | with_reducible refine pwp_ret ?_ | with_reducible refine pwp_exit ?_ | (with_reducible refine cond_t ?_ ?_; (focus (simp [*]; done))) | (with_reducible refine cond_f ?_ ?_; (focus (simp [*]; done))) | with_reducible refine then_n ?_ | with_reducible refine then_r ?_ | with_reducible refine then_e ?_ | with_reducible refine then_g ?_ | with_reducible refine inB_n ?_ | with_reducible refine inB_r ?_ | with_reducible refine inB_e ?_ | with_reducible refine inB_o rfl ?_ | with_reducible refine inB_g ?_ | with_reducible refine Leads.go (by assumption) ?_)
  simp [*]
set_option maxHeartbeats 4000000 in
set_option maxRecDepth 100000 in
theorem order1_local (s : ByteArray) (hp : plainS s) (hs : s.size ≤ 1000) (h0 : s.size ≠ 0) : PCalls Try.prog 23 [strD s] (noHeap noG) fun d _ => d = strD (ord1 s) := by
  refine PCalls.of_pwp Try.call23 Try.func23 rfl (by simp [Try.ntmps23]) ?_
  rw [Try.ntmps23]
  have hsp := split1_spec s hp hs
  have hne : s.data ≠ #[] := by intro e; apply h0; show s.data.size = 0; rw [e]; rfl
  clear hp h0
  simp only [strD] at hsp
  repeat (first | with_reducible refine seq_k fun K hK => ?_ | (with_reducible refine region_k fun K hK => ?_; simp [*]) | (with_reducible refine region_drawT_k mixedO (by decide +kernel) fun K hK => ?_; simp [*]) | (with_reducible refine region_tame_a mixedO (by decide +kernel) fun K hK => ?_; simp [*, Low, isLoadB, isTameB, List.range_succ, List.range']) | with_reducible refine pwp_block ?_ | with_reducible refine pwp_skip ?_ | with_reducible refine pwp_ret ?_ | with_reducible refine pwp_exit ?_ | (with_reducible refine cond_t ?_ ?_; (focus (simp [*]; done))) | (with_reducible refine cond_f ?_ ?_; (focus (simp [*]; done))) | with_reducible refine then_n ?_ | with_reducible refine then_r ?_ | with_reducible refine then_e ?_ | with_reducible refine then_g ?_ | with_reducible refine inB_n ?_ | with_reducible refine inB_r ?_ | with_reducible refine inB_e ?_ | with_reducible refine inB_o rfl ?_ | with_reducible refine inB_g ?_ | with_reducible refine Leads.go (by assumption) ?_)
  refine pwp_loop (fun m st => st.env.n = 23 ∧ st.df = [] ∧ ((m = 1 ∧ st.env.get 0 = strD s ∧ st.env.get 3 = .slice 1 0 [] ∧ st.H = noHeap noG) ∨ (m = 0 ∧ st.env.get 0 = strD ⟨#[]⟩ ∧ ∃ i, st.env.get 3 = .row i 9 0 1 ∧ st.H.get i = some (.row 9 [strD (ord1 s)])))) 1 ⟨by simp, rfl, .inl ⟨rfl, by simp, by simp, rfl⟩⟩ ?_
  rintro m ⟨E, H, df⟩ ⟨en, edf, ⟨rfl, e0, e3, eH⟩ | ⟨rfl, e0, i, e3, eH⟩⟩
  · simp only at en edf e0 e3 eH
    subst edf; subst eH
    repeat (first | with_reducible refine seq_k fun K hK => ?_ | (with_reducible refine region_k fun K hK => ?_; simp [*]) | (with_reducible refine region_drawT_k mixedO (by decide +kernel) fun K hK => ?_; simp [*]) | (with_reducible refine region_tame_a mixedO (by decide +kernel) fun K hK => ?_; simp [*, Low, isLoadB, isTameB, List.range_succ, List.range']) | with_reducible refine pwp_block ?_ | with_reducible refine pwp_skip ?_ | with_reducible refine pwp_ret ?_ | with_reducible refine pwp_exit ?_ | (with_reducible refine cond_t ?_ ?_; (focus (simp [*]; done))) | (with_reducible refine cond_f ?_ ?_; (focus (simp [*]; done))) | with_reducible refine then_n ?_ | with_reducible refine then_r ?_ | with_reducible refine then_e ?_ | with_reducible refine then_g ?_ | with_reducible refine inB_n ?_ | with_reducible refine inB_r ?_ | with_reducible refine inB_e ?_ | with_reducible refine inB_o rfl ?_ | with_reducible refine inB_g ?_ | with_reducible refine Leads.go (by assumption) ?_)
    refine PCalls.mono (hsp _) ?_
    intro d3 H3 hd3
    rw [hd3.1, hd3.2]
    clear hd3
    try simp [*]
    repeat (first | with_reducible refine seq_k fun K hK => ?_ | (with_reducible refine region_k fun K hK => ?_; simp [*]) | (with_reducible refine region_drawT_k mixedO (by decide +kernel) fun K hK => ?_; simp [*]) | (with_reducible refine region_tame_a mixedO (by decide +kernel) fun K hK => ?_; simp [*, Low, isLoadB, isTameB, List.range_succ, List.range']) | with_reducible refine pwp_block ?_ | with_reducible refine pwp_skip ?_ | with_reducible refine pwp_ret ?_ | with_reducible refine pwp_exit ?_ | (with_reducible refine cond_t ?_ ?_; (focus (simp [*]; done))) | (with_reducible refine cond_f ?_ ?_; (focus (simp [*]; done))) | with_reducible refine then_n ?_ | with_reducible refine then_r ?_ | with_reducible refine then_e ?_ | with_reducible refine then_g ?_ | with_reducible refine inB_n ?_ | with_reducible refine inB_r ?_ | with_reducible refine inB_e ?_ | with_reducible refine inB_o rfl ?_ | with_reducible refine inB_g ?_ | with_reducible refine Leads.go (by assumption) ?_)
    refine ⟨by omega, ?_⟩
    repeat (first | with_reducible refine seq_k fun K hK => ?_ | (with_reducible refine region_k fun K hK => ?_; simp [*]) | (with_reducible refine region_drawT_k mixedO (by decide +kernel) fun K hK => ?_; simp [*]) | (with_reducible refine region_tame_a mixedO (by decide +kernel) fun K hK => ?_; simp [*, Low, isLoadB, isTameB, List.range_succ, List.range']) | with_reducible refine pwp_block ?_ | with_reducible refine pwp_skip ?_ | with_reducible refine pwp_ret ?_ | with_reducible refine pwp_exit ?_ | (with_reducible refine cond_t ?_ ?_; (focus (simp [*]; done))) | (with_reducible refine cond_f ?_ ?_; (focus (simp [*]; done))) | with_reducible refine then_n ?_ | with_reducible refine then_r ?_ | with_reducible refine then_e ?_ | with_reducible refine then_g ?_ | with_reducible refine inB_n ?_ | with_reducible refine inB_r ?_ | with_reducible refine inB_e ?_ | with_reducible refine inB_o rfl ?_ | with_reducible refine inB_g ?_ | with_reducible refine Leads.go (by assumption) ?_)
    refine ⟨0, by omega, by simp [*], rfl, .inr ⟨rfl, by simp [en], (noHeap noG).nx + 1, by simp [en], ?_⟩⟩
    simp [ord1]
  · simp only at en edf e0 e3 eH
    subst edf
    repeat (first | with_reducible refine seq_k fun K hK => ?_ | (with_reducible refine region_k fun K hK => ?_; simp [*]) | (with_reducible refine region_drawT_k mixedO (by decide +kernel) fun K hK => ?_; simp [*]) | (with_reducible refine region_tame_a mixedO (by decide +kernel) fun K hK => ?_; simp [*, Low, isLoadB, isTameB, List.range_succ, List.range']) | with_reducible refine pwp_block ?_ | with_reducible refine pwp_skip ?_ | with_reducible refine pwp_ret ?_ | with_reducible refine pwp_exit ?_ | (with_reducible refine cond_t ?_ ?_; (focus (simp [*]; done))) | (with_reducible refine cond_f ?_ ?_; (focus (simp [*]; done))) | with_reducible refine then_n ?_ | with_reducible refine then_r ?_ | with_reducible refine then_e ?_ | with_reducible refine then_g ?_ | with_reducible refine inB_n ?_ | with_reducible refine inB_r ?_ | with_reducible refine inB_e ?_ | with_reducible refine inB_o rfl ?_ | with_reducible refine inB_g ?_ | with_reducible refine Leads.go (by assumption) ?_)
    refine PCalls.mono (reverse1_spec i _ _ eH) ?_
    intro d3 H3 hd3
    rw [hd3.1, hd3.2]
    clear hd3
    try simp [*]
    repeat (first | with_reducible refine seq_k fun K hK => ?_ | (with_reducible refine region_k fun K hK => ?_; simp [*]) | (with_reducible refine region_drawT_k mixedO (by decide +kernel) fun K hK => ?_; simp [*]) | (with_reducible refine region_tame_a mixedO (by decide +kernel) fun K hK => ?_; simp [*, Low, isLoadB, isTameB, List.range_succ, List.range']) | with_reducible refine pwp_block ?_ | with_reducible refine pwp_skip ?_ | with_reducible refine pwp_ret ?_ | with_reducible refine pwp_exit ?_ | (with_reducible refine cond_t ?_ ?_; (focus (simp [*]; done))) | (with_reducible refine cond_f ?_ ?_; (focus (simp [*]; done))) | with_reducible refine then_n ?_ | with_reducible refine then_r ?_ | with_reducible refine then_e ?_ | with_reducible refine then_g ?_ | with_reducible refine inB_n ?_ | with_reducible refine inB_r ?_ | with_reducible refine inB_e ?_ | with_reducible refine inB_o rfl ?_ | with_reducible refine inB_g ?_ | with_reducible refine Leads.go (by assumption) ?_)
    refine PCalls.mono (join1_spec i _ _ eH) ?_
    intro d3 H3 hd3
    rw [hd3.1, hd3.2]
    clear hd3
    try simp [*]
    repeat (first | with_reducible refine seq_k fun K hK => ?_ | (with_reducible refine region_k fun K hK => ?_; simp [*]) | (with_reducible refine region_drawT_k mixedO (by decide +kernel) fun K hK => ?_; simp [*]) | (with_reducible refine region_tame_a mixedO (by decide +kernel) fun K hK => ?_; simp [*, Low, isLoadB, isTameB, List.range_succ, List.range']) | with_reducible refine pwp_block ?_ | with_reducible refine pwp_skip ?_ | with_reducible refine pwp_ret ?_ | with_reducible refine pwp_exit ?_ | (with_reducible refine cond_t ?_ ?_; (focus (simp [*]; done))) | (with_reducible refine cond_f ?_ ?_; (focus (simp [*]; done))) | with_reducible refine then_n ?_ | with_reducible refine then_r ?_ | with_reducible refine then_e ?_ | with_reducible refine then_g ?_ | with_reducible refine inB_n ?_ | with_reducible refine inB_r ?_ | with_reducible refine inB_e ?_ | with_reducible refine inB_o rfl ?_ | with_reducible refine inB_g ?_ | with_reducible refine Leads.go (by assumption) ?_)
    simp [*]
theorem order1_spec (s : ByteArray) (hp : plainS s) (hs : s.size ≤ 1000) (h0 : s.size ≠ 0) (H : Heap) : PCalls Try.prog 23 [strD s] H fun d H' => d = strD (ord1 s) ∧ H' = H :=
  PCalls.alone (vs := [.string s]) (order1_local s hp hs h0) H
end Go.Pv
