/- A part of the proof: functions of the program, walked, or what operations come to. -/
import Derived.Test.YtlfafoociddhgaaPvTR6
-- ZpvTameA ZpvDrawT
namespace Go.Pv
open Go.Proofs
attribute [local simp] Try.underlying3 Try.underlying4 Try.underlying5 Try.underlying9 Try.underlying23 Try.underlying25 Try.underlying33 Try.underlying62 Try.underlying71 Heap.new_get Heap.put_get strD fillD entC
/-! ### The tree's own functions -/
theorem nx0 : (noHeap noG).nx = 0 := rfl
attribute [local simp] nx0
def tr (t : T) : D := .agg [treeD t]
def enD (k : ByteArray) : D := .agg (entC k)
theorem pure_tr (t : T) : Pure (tr t) := .agg _ fun d hd => by
  simp only [List.mem_cons, List.mem_nil_iff, or_false] at hd
  subst hd
  exact pure_tree t
theorem pure_str (s : ByteArray) : Pure (strD s) := .val _
@[simp] theorem ze25 : zeroElem Try.prog 25 = some (.agg [.val (.pointer none)]) := by kernel_rfl
@[simp] theorem ze33 : zeroElem Try.prog 33 = some (.agg [.val (.string ⟨#[]⟩), .val (.string ⟨#[]⟩), .val (.int .i64 0), .slice 1 0 []]) := by kernel_rfl
@[simp] theorem zd33 : zeroD Try.prog 33 = some (entC ⟨#[]⟩) := by kernel_rfl
@[simp] theorem pl33 : placesOf Try.prog 33 = some [(0, 1), (1, 1), (2, 1), (3, 1)] := by kernel_rfl
@[simp] theorem zd25 : zeroD Try.prog 25 = some [.val (.pointer none)] := by kernel_rfl
@[simp] theorem pl25 : placesOf Try.prog 25 = some [(0, 1)] := by kernel_rfl
@[simp] theorem res7 : Try.f7.results.toList = [.tmp 2] := rfl
@[simp] theorem res8 : Try.f8.results.toList = [.tmp 2] := rfl
@[simp] theorem res9 : Try.f9.results.toList = [.cell 4 25] := rfl
@[simp] theorem res10 : Try.f10.results.toList = [.cell 4 25] := rfl
@[simp] theorem res16 : Try.f16.results.toList = [.cell 4 33, .tmp 5] := rfl
set_option maxRecDepth 100000 in
theorem Len_spec (t : T) (H : Heap) : PCalls Try.prog 7 [tr t] H fun d H' => d = .val (.int .i64 t.sz) ∧ H' = H := by
  refine PCalls.liftG ?_ (fun d hd => ?_) (.val _) H
  · refine PCalls.of_pwp Try.call7 Try.func7 rfl (by simp [Try.ntmps7]) ?_
    rw [Try.ntmps7, tr]
    have h := sizeOf_spec t
    repeat (first | with_reducible refine seq_k fun K hK => ?_ | (with_reducible refine region_k fun K hK => ?_; simp [*]) | (with_reducible refine region_drawT_k mixedO (by decide +kernel) fun K hK => ?_; simp [*]) | (with_reducible refine region_tame_a mixedO (by decide +kernel) fun K hK => ?_; simp [*, Low, isLoadB, isTameB, List.range_succ, List.range']) | with_reducible refine pwp_block ?_ | with_reducible refine pwp_skip ?_ | with_reducible refine pwp_ret ?_ | with_reducible refine pwp_exit ?_ | (with_reducible refine cond_t ?_ ?_; (focus (simp [*]; done))) | (with_reducible refine cond_f ?_ ?_; (focus (simp [*]; done))) | with_reducible refine then_n ?_ | with_reducible refine then_r ?_ | with_reducible refine then_e ?_ | with_reducible refine then_g ?_ | with_reducible refine inB_n ?_ | with_reducible refine inB_r ?_ | with_reducible refine inB_e ?_ | with_reducible refine inB_o rfl ?_ | with_reducible refine inB_g ?_ | with_reducible refine Leads.go (by assumption) ?_)
    refine PCalls.mono (h _) ?_
    intro d3 H3 hd3
    rw [hd3.1, hd3.2]
    clear hd3
    try simp [*]
    repeat (first | with_reducible refine seq_k fun K hK => ?_ | (with_reducible refine region_k fun K hK => ?_; simp [*]) | (with_reducible refine region_drawT_k mixedO (by decide +kernel) fun K hK => ?_; simp [*]) | (with_reducible refine region_tame_a mixedO (by decide +kernel) fun K hK => ?_; simp [*, Low, isLoadB, isTameB, List.range_succ, List.range']) | with_reducible refine pwp_block ?_ | with_reducible refine pwp_skip ?_ | with_reducible refine pwp_ret ?_ | with_reducible refine pwp_exit ?_ | (with_reducible refine cond_t ?_ ?_; (focus (simp [*]; done))) | (with_reducible refine cond_f ?_ ?_; (focus (simp [*]; done))) | with_reducible refine then_n ?_ | with_reducible refine then_r ?_ | with_reducible refine then_e ?_ | with_reducible refine then_g ?_ | with_reducible refine inB_n ?_ | with_reducible refine inB_r ?_ | with_reducible refine inB_e ?_ | with_reducible refine inB_o rfl ?_ | with_reducible refine inB_g ?_ | with_reducible refine Leads.go (by assumption) ?_)
    simp [*]
  · simp only [List.mem_cons, List.mem_nil_iff, or_false] at hd; subst hd; exact pure_tr t
set_option maxRecDepth 100000 in
theorem Height_spec (t : T) (H : Heap) : PCalls Try.prog 8 [tr t] H fun d H' => d = .val (.int .i64 (heightT t)) ∧ H' = H := by
  refine PCalls.liftG ?_ (fun d hd => ?_) (.val _) H
  · refine PCalls.of_pwp Try.call8 Try.func8 rfl (by simp [Try.ntmps8]) ?_
    rw [Try.ntmps8, tr]
    have h := height_spec t
    repeat (first | with_reducible refine seq_k fun K hK => ?_ | (with_reducible refine region_k fun K hK => ?_; simp [*]) | (with_reducible refine region_drawT_k mixedO (by decide +kernel) fun K hK => ?_; simp [*]) | (with_reducible refine region_tame_a mixedO (by decide +kernel) fun K hK => ?_; simp [*, Low, isLoadB, isTameB, List.range_succ, List.range']) | with_reducible refine pwp_block ?_ | with_reducible refine pwp_skip ?_ | with_reducible refine pwp_ret ?_ | with_reducible refine pwp_exit ?_ | (with_reducible refine cond_t ?_ ?_; (focus (simp [*]; done))) | (with_reducible refine cond_f ?_ ?_; (focus (simp [*]; done))) | with_reducible refine then_n ?_ | with_reducible refine then_r ?_ | with_reducible refine then_e ?_ | with_reducible refine then_g ?_ | with_reducible refine inB_n ?_ | with_reducible refine inB_r ?_ | with_reducible refine inB_e ?_ | with_reducible refine inB_o rfl ?_ | with_reducible refine inB_g ?_ | with_reducible refine Leads.go (by assumption) ?_)
    refine PCalls.mono (h _) ?_
    intro d3 H3 hd3
    rw [hd3.1, hd3.2]
    clear hd3
    try simp [*]
    repeat (first | with_reducible refine seq_k fun K hK => ?_ | (with_reducible refine region_k fun K hK => ?_; simp [*]) | (with_reducible refine region_drawT_k mixedO (by decide +kernel) fun K hK => ?_; simp [*]) | (with_reducible refine region_tame_a mixedO (by decide +kernel) fun K hK => ?_; simp [*, Low, isLoadB, isTameB, List.range_succ, List.range']) | with_reducible refine pwp_block ?_ | with_reducible refine pwp_skip ?_ | with_reducible refine pwp_ret ?_ | with_reducible refine pwp_exit ?_ | (with_reducible refine cond_t ?_ ?_; (focus (simp [*]; done))) | (with_reducible refine cond_f ?_ ?_; (focus (simp [*]; done))) | with_reducible refine then_n ?_ | with_reducible refine then_r ?_ | with_reducible refine then_e ?_ | with_reducible refine then_g ?_ | with_reducible refine inB_n ?_ | with_reducible refine inB_r ?_ | with_reducible refine inB_e ?_ | with_reducible refine inB_o rfl ?_ | with_reducible refine inB_g ?_ | with_reducible refine Leads.go (by assumption) ?_)
    simp [*]
  · simp only [List.mem_cons, List.mem_nil_iff, or_false] at hd; subst hd; exact pure_tr t
set_option maxHeartbeats 4000000 in
set_option maxRecDepth 100000 in
theorem With_spec (t : T) (hz : nz t) (s : ByteArray) (hp : plainS s) (hs : s.size ≤ 1000) (h0 : s.size ≠ 0) (H : Heap) : PCalls Try.prog 9 [tr t, enD s] H fun d H' => d = tr (withT (ord1 s) s t) ∧ H' = H := by
  refine PCalls.liftG ?_ (fun d hd => ?_) (pure_tr _) H
  · refine PCalls.of_pwp Try.call9 Try.func9 rfl (by simp [Try.ntmps9]) ?_
    rw [Try.ntmps9, tr, tr, enD]
    have h1 := order1_spec s hp hs h0
    have h2 := with_spec (ord1 s) s t hz
    clear hp hs h0 hz
    generalize ord1 s = o at *
    generalize withT o s t = W at *
    simp only [strD, entC] at h1 h2 ⊢
    repeat (first | with_reducible refine seq_k fun K hK => ?_ | (with_reducible refine region_k fun K hK => ?_; simp [*]) | (with_reducible refine region_drawT_k mixedO (by decide +kernel) fun K hK => ?_; simp [*]) | (with_reducible refine region_tame_a mixedO (by decide +kernel) fun K hK => ?_; simp [*, Low, isLoadB, isTameB, List.range_succ, List.range']) | with_reducible refine pwp_block ?_ | with_reducible refine pwp_skip ?_ | with_reducible refine pwp_ret ?_ | with_reducible refine pwp_exit ?_ | (with_reducible refine cond_t ?_ ?_; (focus (simp [*]; done))) | (with_reducible refine cond_f ?_ ?_; (focus (simp [*]; done))) | with_reducible refine then_n ?_ | with_reducible refine then_r ?_ | with_reducible refine then_e ?_ | with_reducible refine then_g ?_ | with_reducible refine inB_n ?_ | with_reducible refine inB_r ?_ | with_reducible refine inB_e ?_ | with_reducible refine inB_o rfl ?_ | with_reducible refine inB_g ?_ | with_reducible refine Leads.go (by assumption) ?_)
    refine PCalls.mono (h1 _) ?_
    intro d3 H3 hd3
    rw [hd3.1, hd3.2]
    clear hd3
    try simp [*]
    refine PCalls.mono (h2 _) ?_
    intro d3 H3 hd3
    rw [hd3.1, hd3.2]
    clear hd3
    try simp [*]
    repeat (first | with_reducible refine seq_k fun K hK => ?_ | (with_reducible refine region_k fun K hK => ?_; simp [*]) | (with_reducible refine region_drawT_k mixedO (by decide +kernel) fun K hK => ?_; simp [*]) | (with_reducible refine region_tame_a mixedO (by decide +kernel) fun K hK => ?_; simp [*, Low, isLoadB, isTameB, List.range_succ, List.range']) | with_reducible refine pwp_block ?_ | with_reducible refine pwp_skip ?_ | with_reducible refine pwp_ret ?_ | with_reducible refine pwp_exit ?_ | (with_reducible refine cond_t ?_ ?_; (focus (simp [*]; done))) | (with_reducible refine cond_f ?_ ?_; (focus (simp [*]; done))) | with_reducible refine then_n ?_ | with_reducible refine then_r ?_ | with_reducible refine then_e ?_ | with_reducible refine then_g ?_ | with_reducible refine inB_n ?_ | with_reducible refine inB_r ?_ | with_reducible refine inB_e ?_ | with_reducible refine inB_o rfl ?_ | with_reducible refine inB_g ?_ | with_reducible refine Leads.go (by assumption) ?_)
    simp [*]
  · simp only [List.mem_cons, List.mem_nil_iff, or_false] at hd
    rcases hd with rfl | rfl
    · exact pure_tr t
    · exact pure_ent s
def getT (q : ByteArray) : T → Option ByteArray
  | .nil => none
  | .node p k _ _ l r => if cmpB q p = -1 then getT q l else if cmpB q p = 1 then getT q r else some k
def getD (o : Option ByteArray) : D := .tup [enD (o.getD ⟨#[]⟩), .val (.bool o.isSome)]
theorem pure_getD (o : Option ByteArray) : Pure (getD o) := .tup _ fun d hd => by
  simp only [List.mem_cons, List.mem_nil_iff, or_false] at hd
  rcases hd with rfl | rfl
  · exact pure_ent _
  · exact .val _
set_option maxHeartbeats 4000000 in
set_option maxRecDepth 100000 in
theorem Get_spec (t : T) (s : ByteArray) (hp : plainS s) (hs : s.size ≤ 1000) (h0 : s.size ≠ 0) (H : Heap) : PCalls Try.prog 16 [tr t, strD s] H fun d H' => d = getD (getT (ord1 s) t) ∧ H' = H := by
  refine PCalls.liftG ?_ (fun d hd => ?_) (pure_getD _) H
  · refine PCalls.of_pwp Try.call16 Try.func16 rfl (by simp [Try.ntmps16]) ?_
    rw [Try.ntmps16, tr]
    have h1 := order1_spec s hp hs h0
    clear hp hs h0
    generalize ord1 s = o at *
    simp only [strD] at h1 ⊢
    repeat (first | with_reducible refine seq_k fun K hK => ?_ | (with_reducible refine region_k fun K hK => ?_; simp [*]) | (with_reducible refine region_drawT_k mixedO (by decide +kernel) fun K hK => ?_; simp [*]) | (with_reducible refine region_tame_a mixedO (by decide +kernel) fun K hK => ?_; simp [*, Low, isLoadB, isTameB, List.range_succ, List.range']) | with_reducible refine pwp_block ?_ | with_reducible refine pwp_skip ?_ | with_reducible refine pwp_ret ?_ | with_reducible refine pwp_exit ?_ | (with_reducible refine cond_t ?_ ?_; (focus (simp [*]; done))) | (with_reducible refine cond_f ?_ ?_; (focus (simp [*]; done))) | with_reducible refine then_n ?_ | with_reducible refine then_r ?_ | with_reducible refine then_e ?_ | with_reducible refine then_g ?_ | with_reducible refine inB_n ?_ | with_reducible refine inB_r ?_ | with_reducible refine inB_e ?_ | with_reducible refine inB_o rfl ?_ | with_reducible refine inB_g ?_ | with_reducible refine Leads.go (by assumption) ?_)
    refine PCalls.mono (h1 _) ?_
    intro d3 H3 hd3
    rw [hd3.1, hd3.2]
    clear hd3
    try simp [*]
    repeat (first | with_reducible refine seq_k fun K hK => ?_ | (with_reducible refine region_k fun K hK => ?_; simp [*]) | (with_reducible refine region_drawT_k mixedO (by decide +kernel) fun K hK => ?_; simp [*]) | (with_reducible refine region_tame_a mixedO (by decide +kernel) fun K hK => ?_; simp [*, Low, isLoadB, isTameB, List.range_succ, List.range']) | with_reducible refine pwp_block ?_ | with_reducible refine pwp_skip ?_ | with_reducible refine pwp_ret ?_ | with_reducible refine pwp_exit ?_ | (with_reducible refine cond_t ?_ ?_; (focus (simp [*]; done))) | (with_reducible refine cond_f ?_ ?_; (focus (simp [*]; done))) | with_reducible refine then_n ?_ | with_reducible refine then_r ?_ | with_reducible refine then_e ?_ | with_reducible refine then_g ?_ | with_reducible refine inB_n ?_ | with_reducible refine inB_r ?_ | with_reducible refine inB_e ?_ | with_reducible refine inB_o rfl ?_ | with_reducible refine inB_g ?_ | with_reducible refine Leads.go (by assumption) ?_)
    refine pwp_loop (fun m st => ∃ u, u.dep = m ∧ getT o u = getT o t ∧ st.env.n = 37 ∧ st.df = [] ∧ st.H.get 1 = some (.cells (entC ⟨#[]⟩)) ∧ st.env.get 4 = .ptr 1 0 ∧ st.env.get 5 = .val (.bool false) ∧ st.env.get 6 = strD o ∧ st.env.get 7 = treeD u) t.dep ⟨t, rfl, rfl, by simp, rfl, by simp, by simp, by simp, by simp, by simp⟩ ?_
    rintro m ⟨E, H, df⟩ ⟨u, rfl, hu, en, edf, eH, e4, e5, e6, e7⟩
    simp only at en edf eH e4 e5 e6 e7
    subst edf
    rcases u with _ | ⟨p, k, lv, sz, l, r⟩
    · have hF : getT o t = none := by rw [← hu]; rfl
      have ku := Hold.mk hF
      clear hu hF
      rw [treeD_nil] at e7
      repeat (first | with_reducible refine seq_k fun K hK => ?_ | (with_reducible refine region_k fun K hK => ?_; simp [*]) | (with_reducible refine region_drawT_k mixedO (by decide +kernel) fun K hK => ?_; simp [*]) | (with_reducible refine region_tame_a mixedO (by decide +kernel) fun K hK => ?_; simp [*, Low, isLoadB, isTameB, List.range_succ, List.range']) | with_reducible refine pwp_block ?_ | with_reducible refine pwp_skip ?_ | with_reducible refine pwp_ret ?_ | with_reducible refine pwp_exit ?_ | (with_reducible refine cond_t ?_ ?_; (focus (simp [*]; done))) | (with_reducible refine cond_f ?_ ?_; (focus (simp [*]; done))) | with_reducible refine then_n ?_ | with_reducible refine then_r ?_ | with_reducible refine then_e ?_ | with_reducible refine then_g ?_ | with_reducible refine inB_n ?_ | with_reducible refine inB_r ?_ | with_reducible refine inB_e ?_ | with_reducible refine inB_o rfl ?_ | with_reducible refine inB_g ?_ | with_reducible refine Leads.go (by assumption) ?_)
      simp [*]
      rw [ku.out]
      rfl
    · rw [treeD_node] at e7
      have hc := cmp_spec o p
      generalize hcp : cmpB o p = c at *
      simp only [strD] at hc
      by_cases c1 : c = -1
      · have hF : getT o t = getT o l := by rw [← hu, getT, hcp, if_pos c1]
        have ku := Hold.mk hF
        clear hu hF hcp
        repeat (first | with_reducible refine seq_k fun K hK => ?_ | (with_reducible refine region_k fun K hK => ?_; simp [*]) | (with_reducible refine region_drawT_k mixedO (by decide +kernel) fun K hK => ?_; simp [*]) | (with_reducible refine region_tame_a mixedO (by decide +kernel) fun K hK => ?_; simp [*, Low, isLoadB, isTameB, List.range_succ, List.range']) | with_reducible refine pwp_block ?_ | with_reducible refine pwp_skip ?_ | with_reducible refine pwp_ret ?_ | with_reducible refine pwp_exit ?_ | (with_reducible refine cond_t ?_ ?_; (focus (simp [*]; done))) | (with_reducible refine cond_f ?_ ?_; (focus (simp [*]; done))) | with_reducible refine then_n ?_ | with_reducible refine then_r ?_ | with_reducible refine then_e ?_ | with_reducible refine then_g ?_ | with_reducible refine inB_n ?_ | with_reducible refine inB_r ?_ | with_reducible refine inB_e ?_ | with_reducible refine inB_o rfl ?_ | with_reducible refine inB_g ?_ | with_reducible refine Leads.go (by assumption) ?_)
        refine PCalls.mono (hc _) ?_
        intro d3 H3 hd3
        rw [hd3.1, hd3.2]
        clear hd3
        try simp [*]
        repeat (first | with_reducible refine seq_k fun K hK => ?_ | (with_reducible refine region_k fun K hK => ?_; simp [*]) | (with_reducible refine region_drawT_k mixedO (by decide +kernel) fun K hK => ?_; simp [*]) | (with_reducible refine region_tame_a mixedO (by decide +kernel) fun K hK => ?_; simp [*, Low, isLoadB, isTameB, List.range_succ, List.range']) | with_reducible refine pwp_block ?_ | with_reducible refine pwp_skip ?_ | with_reducible refine pwp_ret ?_ | with_reducible refine pwp_exit ?_ | (with_reducible refine cond_t ?_ ?_; (focus (simp [*]; done))) | (with_reducible refine cond_f ?_ ?_; (focus (simp [*]; done))) | with_reducible refine then_n ?_ | with_reducible refine then_r ?_ | with_reducible refine then_e ?_ | with_reducible refine then_g ?_ | with_reducible refine inB_n ?_ | with_reducible refine inB_r ?_ | with_reducible refine inB_e ?_ | with_reducible refine inB_o rfl ?_ | with_reducible refine inB_g ?_ | with_reducible refine Leads.go (by assumption) ?_)
        refine ⟨l.dep, by simp only [T.dep]; omega, l, rfl, ku.out.symm, by simp [*], rfl, by simp [*], by simp [*], by simp [*], by simp [*], by simp [*]⟩
      · by_cases c2 : c = 1
        · have hF : getT o t = getT o r := by rw [← hu, getT, hcp, if_neg c1, if_pos c2]
          have ku := Hold.mk hF
          clear hu hF hcp
          repeat (first | with_reducible refine seq_k fun K hK => ?_ | (with_reducible refine region_k fun K hK => ?_; simp [*]) | (with_reducible refine region_drawT_k mixedO (by decide +kernel) fun K hK => ?_; simp [*]) | (with_reducible refine region_tame_a mixedO (by decide +kernel) fun K hK => ?_; simp [*, Low, isLoadB, isTameB, List.range_succ, List.range']) | with_reducible refine pwp_block ?_ | with_reducible refine pwp_skip ?_ | with_reducible refine pwp_ret ?_ | with_reducible refine pwp_exit ?_ | (with_reducible refine cond_t ?_ ?_; (focus (simp [*]; done))) | (with_reducible refine cond_f ?_ ?_; (focus (simp [*]; done))) | with_reducible refine then_n ?_ | with_reducible refine then_r ?_ | with_reducible refine then_e ?_ | with_reducible refine then_g ?_ | with_reducible refine inB_n ?_ | with_reducible refine inB_r ?_ | with_reducible refine inB_e ?_ | with_reducible refine inB_o rfl ?_ | with_reducible refine inB_g ?_ | with_reducible refine Leads.go (by assumption) ?_)
          refine PCalls.mono (hc _) ?_
          intro d3 H3 hd3
          rw [hd3.1, hd3.2]
          clear hd3
          try simp [*]
          repeat (first | with_reducible refine seq_k fun K hK => ?_ | (with_reducible refine region_k fun K hK => ?_; simp [*]) | (with_reducible refine region_drawT_k mixedO (by decide +kernel) fun K hK => ?_; simp [*]) | (with_reducible refine region_tame_a mixedO (by decide +kernel) fun K hK => ?_; simp [*, Low, isLoadB, isTameB, List.range_succ, List.range']) | with_reducible refine pwp_block ?_ | with_reducible refine pwp_skip ?_ | with_reducible refine pwp_ret ?_ | with_reducible refine pwp_exit ?_ | (with_reducible refine cond_t ?_ ?_; (focus (simp [*]; done))) | (with_reducible refine cond_f ?_ ?_; (focus (simp [*]; done))) | with_reducible refine then_n ?_ | with_reducible refine then_r ?_ | with_reducible refine then_e ?_ | with_reducible refine then_g ?_ | with_reducible refine inB_n ?_ | with_reducible refine inB_r ?_ | with_reducible refine inB_e ?_ | with_reducible refine inB_o rfl ?_ | with_reducible refine inB_g ?_ | with_reducible refine Leads.go (by assumption) ?_)
          refine ⟨r.dep, by simp only [T.dep]; omega, r, rfl, ku.out.symm, by simp [*], rfl, by simp [*], by simp [*], by simp [*], by simp [*], by simp [*]⟩
        · have hF : getT o t = some k := by rw [← hu, getT, hcp, if_neg c1, if_neg c2]
          have ku := Hold.mk hF
          clear hu hF hcp
          repeat (first | with_reducible refine seq_k fun K hK => ?_ | (with_reducible refine region_k fun K hK => ?_; simp [*]) | (with_reducible refine region_drawT_k mixedO (by decide +kernel) fun K hK => ?_; simp [*]) | (with_reducible refine region_tame_a mixedO (by decide +kernel) fun K hK => ?_; simp [*, Low, isLoadB, isTameB, List.range_succ, List.range']) | with_reducible refine pwp_block ?_ | with_reducible refine pwp_skip ?_ | with_reducible refine pwp_ret ?_ | with_reducible refine pwp_exit ?_ | (with_reducible refine cond_t ?_ ?_; (focus (simp [*]; done))) | (with_reducible refine cond_f ?_ ?_; (focus (simp [*]; done))) | with_reducible refine then_n ?_ | with_reducible refine then_r ?_ | with_reducible refine then_e ?_ | with_reducible refine then_g ?_ | with_reducible refine inB_n ?_ | with_reducible refine inB_r ?_ | with_reducible refine inB_e ?_ | with_reducible refine inB_o rfl ?_ | with_reducible refine inB_g ?_ | with_reducible refine Leads.go (by assumption) ?_)
          refine PCalls.mono (hc _) ?_
          intro d3 H3 hd3
          rw [hd3.1, hd3.2]
          clear hd3
          try simp [*]
          repeat (first | with_reducible refine seq_k fun K hK => ?_ | (with_reducible refine region_k fun K hK => ?_; simp [*]) | (with_reducible refine region_drawT_k mixedO (by decide +kernel) fun K hK => ?_; simp [*]) | (with_reducible refine region_tame_a mixedO (by decide +kernel) fun K hK => ?_; simp [*, Low, isLoadB, isTameB, List.range_succ, List.range']) | with_reducible refine pwp_block ?_ | with_reducible refine pwp_skip ?_ | with_reducible refine pwp_ret ?_ | with_reducible refine pwp_exit ?_ | (with_reducible refine cond_t ?_ ?_; (focus (simp [*]; done))) | (with_reducible refine cond_f ?_ ?_; (focus (simp [*]; done))) | with_reducible refine then_n ?_ | with_reducible refine then_r ?_ | with_reducible refine then_e ?_ | with_reducible refine then_g ?_ | with_reducible refine inB_n ?_ | with_reducible refine inB_r ?_ | with_reducible refine inB_e ?_ | with_reducible refine inB_o rfl ?_ | with_reducible refine inB_g ?_ | with_reducible refine Leads.go (by assumption) ?_)
          simp [*]
          rw [ku.out]
          rfl
  · simp only [List.mem_cons, List.mem_nil_iff, or_false] at hd
    rcases hd with rfl | rfl
    · exact pure_tr t
    · exact pure_str s
def delT (q : ByteArray) (t : T) : T := if (getT q t).isSome = true then withoutT q t else t
set_option maxHeartbeats 4000000 in
set_option maxRecDepth 100000 in
theorem Without_spec (t : T) (s : ByteArray) (hw : okW (ord1 s) t) (hp : plainS s) (hs : s.size ≤ 1000) (h0 : s.size ≠ 0) (H : Heap) : PCalls Try.prog 10 [tr t, strD s] H fun d H' => d = tr (delT (ord1 s) t) ∧ H' = H := by
  refine PCalls.liftG ?_ (fun d hd => ?_) (pure_tr _) H
  · refine PCalls.of_pwp Try.call10 Try.func10 rfl (by simp [Try.ntmps10]) ?_
    rw [Try.ntmps10]
    have h1 := order1_spec s hp hs h0
    have h2 := Get_spec t s hp hs h0
    have h3 := without_spec t (ord1 s) hw
    clear hp hs h0 hw
    rw [delT]
    generalize withoutT (ord1 s) t = W at *
    generalize ord1 s = o at *
    generalize getT o t = g at *
    cases g with
    | none =>
      simp only [Option.isSome, Bool.false_eq_true, if_false]
      simp only [tr, getD, enD, entC, strD, Option.getD, Option.isSome] at h1 h2 h3 ⊢
      repeat (first | with_reducible refine seq_k fun K hK => ?_ | (with_reducible refine region_k fun K hK => ?_; simp [*]) | (with_reducible refine region_drawT_k mixedO (by decide +kernel) fun K hK => ?_; simp [*]) | (with_reducible refine region_tame_a mixedO (by decide +kernel) fun K hK => ?_; simp [*, Low, isLoadB, isTameB, List.range_succ, List.range']) | with_reducible refine pwp_block ?_ | with_reducible refine pwp_skip ?_ | with_reducible refine pwp_ret ?_ | with_reducible refine pwp_exit ?_ | (with_reducible refine cond_t ?_ ?_; (focus (simp [*]; done))) | (with_reducible refine cond_f ?_ ?_; (focus (simp [*]; done))) | with_reducible refine then_n ?_ | with_reducible refine then_r ?_ | with_reducible refine then_e ?_ | with_reducible refine then_g ?_ | with_reducible refine inB_n ?_ | with_reducible refine inB_r ?_ | with_reducible refine inB_e ?_ | with_reducible refine inB_o rfl ?_ | with_reducible refine inB_g ?_ | with_reducible refine Leads.go (by assumption) ?_)
      refine PCalls.mono (h2 _) ?_
      intro d3 H3 hd3
      rw [hd3.1, hd3.2]
      clear hd3
      try simp [*]
      repeat (first | with_reducible refine seq_k fun K hK => ?_ | (with_reducible refine region_k fun K hK => ?_; simp [*]) | (with_reducible refine region_drawT_k mixedO (by decide +kernel) fun K hK => ?_; simp [*]) | (with_reducible refine region_tame_a mixedO (by decide +kernel) fun K hK => ?_; simp [*, Low, isLoadB, isTameB, List.range_succ, List.range']) | with_reducible refine pwp_block ?_ | with_reducible refine pwp_skip ?_ | with_reducible refine pwp_ret ?_ | with_reducible refine pwp_exit ?_ | (with_reducible refine cond_t ?_ ?_; (focus (simp [*]; done))) | (with_reducible refine cond_f ?_ ?_; (focus (simp [*]; done))) | with_reducible refine then_n ?_ | with_reducible refine then_r ?_ | with_reducible refine then_e ?_ | with_reducible refine then_g ?_ | with_reducible refine inB_n ?_ | with_reducible refine inB_r ?_ | with_reducible refine inB_e ?_ | with_reducible refine inB_o rfl ?_ | with_reducible refine inB_g ?_ | with_reducible refine Leads.go (by assumption) ?_)
      simp [*]
    | some k =>
      simp only [Option.isSome, if_true]
      simp only [tr, getD, enD, entC, strD, Option.getD, Option.isSome] at h1 h2 h3 ⊢
      repeat (first | with_reducible refine seq_k fun K hK => ?_ | (with_reducible refine region_k fun K hK => ?_; simp [*]) | (with_reducible refine region_drawT_k mixedO (by decide +kernel) fun K hK => ?_; simp [*]) | (with_reducible refine region_tame_a mixedO (by decide +kernel) fun K hK => ?_; simp [*, Low, isLoadB, isTameB, List.range_succ, List.range']) | with_reducible refine pwp_block ?_ | with_reducible refine pwp_skip ?_ | with_reducible refine pwp_ret ?_ | with_reducible refine pwp_exit ?_ | (with_reducible refine cond_t ?_ ?_; (focus (simp [*]; done))) | (with_reducible refine cond_f ?_ ?_; (focus (simp [*]; done))) | with_reducible refine then_n ?_ | with_reducible refine then_r ?_ | with_reducible refine then_e ?_ | with_reducible refine then_g ?_ | with_reducible refine inB_n ?_ | with_reducible refine inB_r ?_ | with_reducible refine inB_e ?_ | with_reducible refine inB_o rfl ?_ | with_reducible refine inB_g ?_ | with_reducible refine Leads.go (by assumption) ?_)
      refine PCalls.mono (h2 _) ?_
      intro d3 H3 hd3
      rw [hd3.1, hd3.2]
      clear hd3
      try simp [*]
      repeat (first | with_reducible refine seq_k fun K hK => ?_ | (with_reducible refine region_k fun K hK => ?_; simp [*]) | (with_reducible refine region_drawT_k mixedO (by decide +kernel) fun K hK => ?_; simp [*]) | (with_reducible refine region_tame_a mixedO (by decide +kernel) fun K hK => ?_; simp [*, Low, isLoadB, isTameB, List.range_succ, List.range']) | with_reducible refine pwp_block ?_ | with_reducible refine pwp_skip ?_ | with_reducible refine pwp_ret ?_ | with_reducible refine pwp_exit ?_ | (with_reducible refine cond_t ?_ ?_; (focus (simp [*]; done))) | (with_reducible refine cond_f ?_ ?_; (focus (simp [*]; done))) | with_reducible refine then_n ?_ | with_reducible refine then_r ?_ | with_reducible refine then_e ?_ | with_reducible refine then_g ?_ | with_reducible refine inB_n ?_ | with_reducible refine inB_r ?_ | with_reducible refine inB_e ?_ | with_reducible refine inB_o rfl ?_ | with_reducible refine inB_g ?_ | with_reducible refine Leads.go (by assumption) ?_)
      refine PCalls.mono (h1 _) ?_
      intro d3 H3 hd3
      rw [hd3.1, hd3.2]
      clear hd3
      try simp [*]
      refine PCalls.mono (h3 _) ?_
      intro d3 H3 hd3
      rw [hd3.1, hd3.2]
      clear hd3
      try simp [*]
      repeat (first | with_reducible refine seq_k fun K hK => ?_ | (with_reducible refine region_k fun K hK => ?_; simp [*]) | (with_reducible refine region_drawT_k mixedO (by decide +kernel) fun K hK => ?_; simp [*]) | (with_reducible refine region_tame_a mixedO (by decide +kernel) fun K hK => ?_; simp [*, Low, isLoadB, isTameB, List.range_succ, List.range']) | with_reducible refine pwp_block ?_ | with_reducible refine pwp_skip ?_ | with_reducible refine pwp_ret ?_ | with_reducible refine pwp_exit ?_ | (with_reducible refine cond_t ?_ ?_; (focus (simp [*]; done))) | (with_reducible refine cond_f ?_ ?_; (focus (simp [*]; done))) | with_reducible refine then_n ?_ | with_reducible refine then_r ?_ | with_reducible refine then_e ?_ | with_reducible refine then_g ?_ | with_reducible refine inB_n ?_ | with_reducible refine inB_r ?_ | with_reducible refine inB_e ?_ | with_reducible refine inB_o rfl ?_ | with_reducible refine inB_g ?_ | with_reducible refine Leads.go (by assumption) ?_)
      simp [*]
  · simp only [List.mem_cons, List.mem_nil_iff, or_false] at hd
    rcases hd with rfl | rfl
    · exact pure_tr t
    · exact pure_str s
end Go.Pv
