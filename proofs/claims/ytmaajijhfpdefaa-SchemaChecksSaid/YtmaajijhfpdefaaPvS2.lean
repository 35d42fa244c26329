/- A part of the proof: functions of the program, walked, or what operations come to. -/
import Derived.Test.YtmaajijhfpdefaaPvS1
namespace Go.Pv
open Go.Proofs
attribute [local simp] Try.underlying31 Try.underlying41 Try.underlying29 strD
@[simp] theorem sz31 : szOf Try.prog 31 = 6 := by kernel_rfl
@[simp] theorem sz9 : szOf Try.prog 9 = 1 := by kernel_rfl
@[simp] theorem zd31 : zeroD Try.prog 31 = some (cellsD (clD 10)) := by kernel_rfl
@[simp] theorem ze31 : zeroElem Try.prog 31 = some (clD 10) := by kernel_rfl
@[simp] theorem cells_cl (k : Nat) : cellsD (clD k) = [strD (nm k), strD (od k), strD (sp k), .val (.int .i64 (kd k)), listD 9 (mu k), listD 9 (ma k)] := rfl
@[simp] theorem res10 : Try.f10.results.toList = [.cell 2 31, .tmp 3] := rfl
def hit (s : ByteArray) (k : Nat) : Bool := decide ((lowS s).data = (lowS (nm k)).data) || decide (s.data = (od k).data)
@[simp] theorem one_listD (e : TypeId) (l : List ByteArray) : oneD (listD e l) = true := by unfold listD; split <;> rfl
@[simp] theorem places31 : placesOf Try.prog 31 = some [(0, 1), (1, 1), (2, 1), (3, 1), (4, 1), (5, 1)] := by kernel_rfl
attribute [local simp] fillD
def fcls (s : ByteArray) : Nat := ((List.range 10).find? (hit s)).getD 10
theorem nm_small (k : Nat) : (nm k).size ≤ 140737488351232 := by
  unfold nm; split <;> decide
attribute [local simp] Heap.new_ne Heap.put_ne
theorem find_range (p : Nat → Bool) : ∀ (n k : Nat), k < n → p k = true → (∀ j, j < k → p j = false) → (List.range n).find? p = some k
  | 0, k, h, _, _ => by omega
  | n + 1, k, h, hp, hj => by
    rw [List.range_succ, List.find?_append]
    rcases Nat.lt_or_ge k n with q | q
    · rw [find_range p n k q hp hj]; rfl
    · have : k = n := by omega
      subst this
      have hn : (List.range k).find? p = none := by
        rw [List.find?_eq_none]
        intro x hx
        rw [hj x (List.mem_range.1 hx)]
        decide
      rw [hn]
      simp [hp]
theorem find_range_none (p : Nat → Bool) (n : Nat) (h : ∀ j, j < n → p j = false) : (List.range n).find? p = none := by
  rw [List.find?_eq_none]
  intro x hx
  rw [h x (List.mem_range.1 hx)]
  decide
theorem fcls_of {s : ByteArray} {k : Nat} (hk : k < 10) (h : hit s k = true) (hj : ∀ j, j < k → hit s j = false) : fcls s = k := by rw [fcls, find_range _ 10 k hk h hj]; rfl
theorem fcls_none {s : ByteArray} (hj : ∀ j, j < 10 → hit s j = false) : fcls s = 10 := by rw [fcls, find_range_none _ 10 hj]; rfl
set_option maxHeartbeats 4000000 in
set_option maxRecDepth 100000 in
theorem FindClass_local (s : ByteArray) (hs : s.size ≤ 140737488351232) : PCalls Try.prog 10 [strD s] (noHeap noG) fun d _ => d = .tup [clD (fcls s), .val (.bool (decide (fcls s < 10)))] := by
  refine PCalls.of_pwp Try.call10 Try.func10 rfl (by simp [Try.ntmps10]) ?_
  rw [Try.ntmps10]
  repeat (first | with_reducible refine seq_k fun K hK => ?_ | (with_reducible refine region_k fun K hK => ?_; simp [*]) | with_reducible refine pwp_block ?_ | with_reducible refine pwp_skip ?_ | with_reducible refine pwp_ret ?_ | with_reducible refine pwp_exit ?_ | (with_reducible refine cond_t ?_ ?_; (focus (simp [*]; done))) | (with_reducible refine cond_f ?_ ?_; (focus (simp [*]; done))) | with_reducible refine then_n ?_ | with_reducible refine then_r ?_ | with_reducible refine then_e ?_ | with_reducible refine then_g ?_ | with_reducible refine inB_n ?_ | with_reducible refine inB_r ?_ | with_reducible refine inB_e ?_ | with_reducible refine inB_o rfl ?_ | with_reducible refine inB_g ?_ | with_reducible refine Leads.go (by assumption) ?_)
  refine PCalls.mono (Lower_spec s _ hs) ?_
  rintro _ _ ⟨rfl, rfl⟩
  try simp
  repeat (first | with_reducible refine seq_k fun K hK => ?_ | (with_reducible refine region_k fun K hK => ?_; simp [*]) | with_reducible refine pwp_block ?_ | with_reducible refine pwp_skip ?_ | with_reducible refine pwp_ret ?_ | with_reducible refine pwp_exit ?_ | (with_reducible refine cond_t ?_ ?_; (focus (simp [*]; done))) | (with_reducible refine cond_f ?_ ?_; (focus (simp [*]; done))) | with_reducible refine then_n ?_ | with_reducible refine then_r ?_ | with_reducible refine then_e ?_ | with_reducible refine then_g ?_ | with_reducible refine inB_n ?_ | with_reducible refine inB_r ?_ | with_reducible refine inB_e ?_ | with_reducible refine inB_o rfl ?_ | with_reducible refine inB_g ?_ | with_reducible refine Leads.go (by assumption) ?_)
  refine PCalls.mono (Classes_spec _) ?_
  rintro _ _ ⟨rfl, rfl⟩
  try simp
  repeat (first | with_reducible refine seq_k fun K hK => ?_ | (with_reducible refine region_k fun K hK => ?_; simp [*]) | with_reducible refine pwp_block ?_ | with_reducible refine pwp_skip ?_ | with_reducible refine pwp_ret ?_ | with_reducible refine pwp_exit ?_ | (with_reducible refine cond_t ?_ ?_; (focus (simp [*]; done))) | (with_reducible refine cond_f ?_ ?_; (focus (simp [*]; done))) | with_reducible refine then_n ?_ | with_reducible refine then_r ?_ | with_reducible refine then_e ?_ | with_reducible refine then_g ?_ | with_reducible refine inB_n ?_ | with_reducible refine inB_r ?_ | with_reducible refine inB_e ?_ | with_reducible refine inB_o rfl ?_ | with_reducible refine inB_g ?_ | with_reducible refine Leads.go (by assumption) ?_)
  refine pwp_loop (fun m st => ∃ k, k ≤ 10 ∧ m = 10 - k ∧ st.env.n = 29 ∧ st.df = [] ∧ st.env.get 0 = .val (.string s) ∧ st.env.get 2 = .ptr 0 0 ∧ st.env.get 4 = .val (.string (lowS s)) ∧ st.env.get 9 = .slice 0 31 ((List.range 10).map clD) ∧
    st.env.get 10 = .val (.int .i64 10) ∧ st.env.get 11 = .val (.int .i64 k) ∧ 0 < st.H.nx ∧ st.H.get 0 = some (.cells (cellsD (clD 10))) ∧ ∀ j, j < k → hit s j = false) 10 ?_ ?_
  · refine ⟨0, by omega, by omega, by simp, rfl, by simp, by simp; rfl, by simp, by simp, by simp, by simp, Nat.zero_lt_succ _, Heap.new_same _ _, fun j hj => by omega⟩
  · rintro m ⟨E, H, df⟩ ⟨k, hk, rfl, en, edf, e0, e2, e4, e9, e10, e11, eN, eH, eP⟩
    simp only at en edf e0 e2 e4 e9 e10 e11 eN eH
    subst edf
    by_cases h : k < 10
    · have hki : (k : Int) < 10 := by omega
      have hL : ((List.range 10).map clD)[k]? = some (clD k) := by rw [List.getElem?_map, List.getElem?_range h]; rfl
      have hLl : ((List.range 10).map clD).length = 10 := by simp
      have hge : ∀ h, ((List.range 10).map clD)[k]'h = clD k := fun h => by have := hL; rw [List.getElem?_eq_getElem h] at this; exact Option.some.inj this
      generalize (List.range 10).map clD = L at *
      have hn0 : (0 : Nat) ≠ H.nx := by omega
      have hw := wrapSucc k (by omega)
      by_cases h1 : (lowS s).data = (lowS (nm k)).data
      · repeat (first | with_reducible refine seq_k fun K hK => ?_ | (with_reducible refine region_k fun K hK => ?_; simp [*]) | with_reducible refine pwp_block ?_ | with_reducible refine pwp_skip ?_ | with_reducible refine pwp_ret ?_ | with_reducible refine pwp_exit ?_ | (with_reducible refine cond_t ?_ ?_; (focus (simp [*]; done))) | (with_reducible refine cond_f ?_ ?_; (focus (simp [*]; done))) | with_reducible refine then_n ?_ | with_reducible refine then_r ?_ | with_reducible refine then_e ?_ | with_reducible refine then_g ?_ | with_reducible refine inB_n ?_ | with_reducible refine inB_r ?_ | with_reducible refine inB_e ?_ | with_reducible refine inB_o rfl ?_ | with_reducible refine inB_g ?_ | with_reducible refine Leads.go (by assumption) ?_)
        refine PCalls.mono (Lower_spec (nm k) _ (nm_small k)) ?_
        rintro _ _ ⟨rfl, rfl⟩
        try simp
        simp [*]
        repeat (first | with_reducible refine seq_k fun K hK => ?_ | (with_reducible refine region_k fun K hK => ?_; simp [*]) | with_reducible refine pwp_block ?_ | with_reducible refine pwp_skip ?_ | with_reducible refine pwp_ret ?_ | with_reducible refine pwp_exit ?_ | (with_reducible refine cond_t ?_ ?_; (focus (simp [*]; done))) | (with_reducible refine cond_f ?_ ?_; (focus (simp [*]; done))) | with_reducible refine then_n ?_ | with_reducible refine then_r ?_ | with_reducible refine then_e ?_ | with_reducible refine then_g ?_ | with_reducible refine inB_n ?_ | with_reducible refine inB_r ?_ | with_reducible refine inB_e ?_ | with_reducible refine inB_o rfl ?_ | with_reducible refine inB_g ?_ | with_reducible refine Leads.go (by assumption) ?_)
        have hf : fcls s = k := fcls_of h (by simp [hit, h1]) eP
        rw [hf]
        simp [*]
        rfl
      · by_cases h2 : s.data = (od k).data
        · repeat (first | with_reducible refine seq_k fun K hK => ?_ | (with_reducible refine region_k fun K hK => ?_; simp [*]) | with_reducible refine pwp_block ?_ | with_reducible refine pwp_skip ?_ | with_reducible refine pwp_ret ?_ | with_reducible refine pwp_exit ?_ | (with_reducible refine cond_t ?_ ?_; (focus (simp [*]; done))) | (with_reducible refine cond_f ?_ ?_; (focus (simp [*]; done))) | with_reducible refine then_n ?_ | with_reducible refine then_r ?_ | with_reducible refine then_e ?_ | with_reducible refine then_g ?_ | with_reducible refine inB_n ?_ | with_reducible refine inB_r ?_ | with_reducible refine inB_e ?_ | with_reducible refine inB_o rfl ?_ | with_reducible refine inB_g ?_ | with_reducible refine Leads.go (by assumption) ?_)
          refine PCalls.mono (Lower_spec (nm k) _ (nm_small k)) ?_
          rintro _ _ ⟨rfl, rfl⟩
          try simp
          simp [*]
          repeat (first | with_reducible refine seq_k fun K hK => ?_ | (with_reducible refine region_k fun K hK => ?_; simp [*]) | with_reducible refine pwp_block ?_ | with_reducible refine pwp_skip ?_ | with_reducible refine pwp_ret ?_ | with_reducible refine pwp_exit ?_ | (with_reducible refine cond_t ?_ ?_; (focus (simp [*]; done))) | (with_reducible refine cond_f ?_ ?_; (focus (simp [*]; done))) | with_reducible refine then_n ?_ | with_reducible refine then_r ?_ | with_reducible refine then_e ?_ | with_reducible refine then_g ?_ | with_reducible refine inB_n ?_ | with_reducible refine inB_r ?_ | with_reducible refine inB_e ?_ | with_reducible refine inB_o rfl ?_ | with_reducible refine inB_g ?_ | with_reducible refine Leads.go (by assumption) ?_)
          have hf : fcls s = k := fcls_of h (by simp [hit, h2]) eP
          rw [hf]
          simp [*]
          rfl
        · repeat (first | with_reducible refine seq_k fun K hK => ?_ | (with_reducible refine region_k fun K hK => ?_; simp [*]) | with_reducible refine pwp_block ?_ | with_reducible refine pwp_skip ?_ | with_reducible refine pwp_ret ?_ | with_reducible refine pwp_exit ?_ | (with_reducible refine cond_t ?_ ?_; (focus (simp [*]; done))) | (with_reducible refine cond_f ?_ ?_; (focus (simp [*]; done))) | with_reducible refine then_n ?_ | with_reducible refine then_r ?_ | with_reducible refine then_e ?_ | with_reducible refine then_g ?_ | with_reducible refine inB_n ?_ | with_reducible refine inB_r ?_ | with_reducible refine inB_e ?_ | with_reducible refine inB_o rfl ?_ | with_reducible refine inB_g ?_ | with_reducible refine Leads.go (by assumption) ?_)
          refine PCalls.mono (Lower_spec (nm k) _ (nm_small k)) ?_
          rintro _ _ ⟨rfl, rfl⟩
          try simp
          simp [*]
          repeat (first | with_reducible refine seq_k fun K hK => ?_ | (with_reducible refine region_k fun K hK => ?_; simp [*]) | with_reducible refine pwp_block ?_ | with_reducible refine pwp_skip ?_ | with_reducible refine pwp_ret ?_ | with_reducible refine pwp_exit ?_ | (with_reducible refine cond_t ?_ ?_; (focus (simp [*]; done))) | (with_reducible refine cond_f ?_ ?_; (focus (simp [*]; done))) | with_reducible refine then_n ?_ | with_reducible refine then_r ?_ | with_reducible refine then_e ?_ | with_reducible refine then_g ?_ | with_reducible refine inB_n ?_ | with_reducible refine inB_r ?_ | with_reducible refine inB_e ?_ | with_reducible refine inB_o rfl ?_ | with_reducible refine inB_g ?_ | with_reducible refine Leads.go (by assumption) ?_)
          refine ⟨10 - (k + 1), by omega, k + 1, by omega, rfl, ?_⟩
          simp [*]
          intro j hj
          rcases Nat.lt_or_ge j k with q | q
          · exact eP j q
          · have : j = k := by omega
            subst this
            simp [hit, h1, h2]
    · have hks : k = 10 := by omega
      subst hks
      repeat (first | with_reducible refine seq_k fun K hK => ?_ | (with_reducible refine region_k fun K hK => ?_; simp [*]) | with_reducible refine pwp_block ?_ | with_reducible refine pwp_skip ?_ | with_reducible refine pwp_ret ?_ | with_reducible refine pwp_exit ?_ | (with_reducible refine cond_t ?_ ?_; (focus (simp [*]; done))) | (with_reducible refine cond_f ?_ ?_; (focus (simp [*]; done))) | with_reducible refine then_n ?_ | with_reducible refine then_r ?_ | with_reducible refine then_e ?_ | with_reducible refine then_g ?_ | with_reducible refine inB_n ?_ | with_reducible refine inB_r ?_ | with_reducible refine inB_e ?_ | with_reducible refine inB_o rfl ?_ | with_reducible refine inB_g ?_ | with_reducible refine Leads.go (by assumption) ?_)
      rw [fcls_none eP]
      simp [*]
      rfl
theorem pure_list (e : TypeId) (l : List ByteArray) : Pure (listD e l) := by
  unfold listD
  split
  · exact .slice _ _ _ fun d hd => by cases hd
  · refine .slice _ _ _ fun d hd => ?_
    simp only [flat, List.mem_flatMap, List.mem_map] at hd
    obtain ⟨x, ⟨y, _, rfl⟩, hd⟩ := hd
    simp [strD] at hd
    subst hd
    exact .val _
theorem pure_cl (k : Nat) : Pure (clD k) := .agg _ fun d hd => by
  simp only [List.mem_cons, List.mem_nil_iff, or_false] at hd
  rcases hd with rfl | rfl | rfl | rfl | rfl | rfl
  · exact .val _
  · exact .val _
  · exact .val _
  · exact .val _
  · exact pure_list _ _
  · exact pure_list _ _
theorem FindClass_spec (s : ByteArray) (H : Heap) (hs : s.size ≤ 140737488351232) : PCalls Try.prog 10 [strD s] H fun d H' => d = .tup [clD (fcls s), .val (.bool (decide (fcls s < 10)))] ∧ H' = H :=
  PCalls.liftG (FindClass_local s hs) (fun d hd => by simp only [List.mem_cons, List.mem_nil_iff, or_false] at hd; subst hd; exact .val _)
    (.tup _ fun d hd => by simp only [List.mem_cons, List.mem_nil_iff, or_false] at hd; rcases hd with rfl | rfl; exact pure_cl _; exact .val _) H
end Go.Pv
