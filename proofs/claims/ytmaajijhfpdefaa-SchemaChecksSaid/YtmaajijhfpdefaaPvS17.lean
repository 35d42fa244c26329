/- A part of the proof: functions of the program, walked, or what operations come to. -/
import Derived.Test.YtmaajijhfpdefaaPvS16
namespace Go.Pv
open Go.Proofs
/-! ### The reference: classes, attributes -/
attribute [local simp] Try.underlying34 Try.underlying43 Try.underlying26 Try.underlying39 Try.underlying29 strD fillD
@[simp] theorem sz34 : szOf Try.prog 34 = 6 := by kernel_rfl
@[simp] theorem zd34 : zeroD Try.prog 34 = some (cellsD (clD 10)) := by kernel_rfl
@[simp] theorem ze34 : zeroElem Try.prog 34 = some (clD 10) := by kernel_rfl
@[simp] theorem places34 : placesOf Try.prog 34 = some [(0, 1), (1, 1), (2, 1), (3, 1), (4, 1), (5, 1)] := by kernel_rfl
@[simp] theorem sz26 : szOf Try.prog 26 = 5 := by kernel_rfl
@[simp] theorem zd26 : zeroD Try.prog 26 = some (cellsD (atD 20)) := by kernel_rfl
@[simp] theorem ze26 : zeroElem Try.prog 26 = some (atD 20) := by kernel_rfl
@[simp] theorem places26 : placesOf Try.prog 26 = some [(0, 1), (1, 1), (2, 1), (3, 1), (4, 1)] := by kernel_rfl
@[simp] theorem res11 : Try.f11.results.toList = [.cell 2 34, .tmp 3] := rfl
@[simp] theorem res9 : Try.f9.results.toList = [.cell 2 26, .tmp 3] := rfl
@[simp] theorem res34 : Try.f34.results.toList = [.tmp 4] := rfl
@[simp] theorem res32 : Try.f32.results.toList = [.tmp 4] := rfl
theorem classesR_run : runFz Try.prog 600 15 [] = some (.slice 0 34 ((List.range 10).map clD)) := by kernel_rfl
theorem attributesR_run : runFz Try.prog 600 13 [] = some (.slice 0 26 ((List.range 20).map atD)) := by kernel_rfl
theorem ClassesR_spec (H : Heap) : PCalls Try.prog 15 [] H fun d H' => d = .slice 0 34 ((List.range 10).map clD) ∧ H' = H :=
  PCalls.liftG (runFz_spec mixedO classesR_run) (fun d hd => by cases hd) (pure_of 20 _ (by kernel_rfl)) H
theorem AttributesR_spec (H : Heap) : PCalls Try.prog 13 [] H fun d H' => d = .slice 0 26 ((List.range 20).map atD) ∧ H' = H :=
  PCalls.liftG (runFz_spec mixedO attributesR_run) (fun d hd => by cases hd) (pure_of 20 _ (by kernel_rfl)) H
attribute [local simp] Heap.new_get Heap.put_get
set_option maxHeartbeats 4000000 in
set_option maxRecDepth 100000 in
theorem FindClassR_local (s : ByteArray) (hs : s.size ≤ 140737488351232) : PCalls Try.prog 11 [strD s] (noHeap noG) fun d _ => d = .tup [clD (fcls s), .val (.bool (decide (fcls s < 10)))] := by
  refine PCalls.of_pwp Try.call11 Try.func11 rfl (by simp [Try.ntmps11]) ?_
  rw [Try.ntmps11]
  repeat (first | with_reducible refine seq_k fun K hK => ?_ | (with_reducible refine region_k fun K hK => ?_; simp [*]) | (with_reducible refine region_draw_k mixedO (by decide +kernel) fun K hK => ?_; simp [*]) | with_reducible refine pwp_block ?_ | with_reducible refine pwp_skip ?_ | with_reducible refine pwp_ret ?_ | with_reducible refine pwp_exit ?_ | (with_reducible refine cond_t ?_ ?_; (focus (simp [*]; done))) | (with_reducible refine cond_f ?_ ?_; (focus (simp [*]; done))) | with_reducible refine then_n ?_ | with_reducible refine then_r ?_ | with_reducible refine then_e ?_ | with_reducible refine then_g ?_ | with_reducible refine inB_n ?_ | with_reducible refine inB_r ?_ | with_reducible refine inB_e ?_ | with_reducible refine inB_o rfl ?_ | with_reducible refine inB_g ?_ | with_reducible refine Leads.go (by assumption) ?_)
  refine PCalls.mono (ClassesR_spec _) ?_
  rintro _ H ⟨rfl, rfl⟩
  try simp [*]
  repeat (first | with_reducible refine seq_k fun K hK => ?_ | (with_reducible refine region_k fun K hK => ?_; simp [*]) | (with_reducible refine region_draw_k mixedO (by decide +kernel) fun K hK => ?_; simp [*]) | with_reducible refine pwp_block ?_ | with_reducible refine pwp_skip ?_ | with_reducible refine pwp_ret ?_ | with_reducible refine pwp_exit ?_ | (with_reducible refine cond_t ?_ ?_; (focus (simp [*]; done))) | (with_reducible refine cond_f ?_ ?_; (focus (simp [*]; done))) | with_reducible refine then_n ?_ | with_reducible refine then_r ?_ | with_reducible refine then_e ?_ | with_reducible refine then_g ?_ | with_reducible refine inB_n ?_ | with_reducible refine inB_r ?_ | with_reducible refine inB_e ?_ | with_reducible refine inB_o rfl ?_ | with_reducible refine inB_g ?_ | with_reducible refine Leads.go (by assumption) ?_)
  refine PCalls.mono (LowerR_spec s _ hs) ?_
  rintro _ H ⟨rfl, rfl⟩
  try simp [*]
  repeat (first | with_reducible refine seq_k fun K hK => ?_ | (with_reducible refine region_k fun K hK => ?_; simp [*]) | (with_reducible refine region_draw_k mixedO (by decide +kernel) fun K hK => ?_; simp [*]) | with_reducible refine pwp_block ?_ | with_reducible refine pwp_skip ?_ | with_reducible refine pwp_ret ?_ | with_reducible refine pwp_exit ?_ | (with_reducible refine cond_t ?_ ?_; (focus (simp [*]; done))) | (with_reducible refine cond_f ?_ ?_; (focus (simp [*]; done))) | with_reducible refine then_n ?_ | with_reducible refine then_r ?_ | with_reducible refine then_e ?_ | with_reducible refine then_g ?_ | with_reducible refine inB_n ?_ | with_reducible refine inB_r ?_ | with_reducible refine inB_e ?_ | with_reducible refine inB_o rfl ?_ | with_reducible refine inB_g ?_ | with_reducible refine Leads.go (by assumption) ?_)
  refine pwp_for 10 (fun k st => st.env.n = 38 ∧ st.df = [] ∧ slots st.env [(0, .val (.string s)), (2, .ptr 0 0), (4, .slice 0 34 ((List.range 10).map clD)), (5, .val (.string (lowS s))), (6, .val (.int .i64 k))] ∧
    0 < st.H.nx ∧ st.H.get 0 = some (.cells (cellsD (clD 10))) ∧ ∀ j, j < k → hit s j = false) ?_ ?_ ?_
  · refine ⟨by simp, rfl, by simp; rfl, Nat.zero_lt_succ _, Heap.new_same _ _, fun j hj => by omega⟩
  · rintro k ⟨E, H, df⟩ h ⟨en, edf, ⟨e0, e2, e4, e5, e6, -⟩, eN, eH, eP⟩
    simp only at en edf e0 e2 e4 e5 e6 eN eH
    subst edf
    have hki : (k : Int) < 10 := by omega
    have hL : ((List.range 10).map clD)[k]? = some (clD k) := by rw [List.getElem?_map, List.getElem?_range h]; rfl
    have hLl : ((List.range 10).map clD).length = 10 := by simp
    have hge := get_of hL
    generalize (List.range 10).map clD = L at *
    have hw := wrapSucc k (by omega)
    have kP := Hold.mk eP
    clear eP
    by_cases h1 : (lowS s).data = (lowS (nm k)).data
    · have hf : fcls s = k := fcls_of h (by simp [hit, h1]) kP.out
      repeat (first | with_reducible refine seq_k fun K hK => ?_ | (with_reducible refine region_k fun K hK => ?_; simp [*]) | (with_reducible refine region_draw_k mixedO (by decide +kernel) fun K hK => ?_; simp [*]) | with_reducible refine pwp_block ?_ | with_reducible refine pwp_skip ?_ | with_reducible refine pwp_ret ?_ | with_reducible refine pwp_exit ?_ | (with_reducible refine cond_t ?_ ?_; (focus (simp [*]; done))) | (with_reducible refine cond_f ?_ ?_; (focus (simp [*]; done))) | with_reducible refine then_n ?_ | with_reducible refine then_r ?_ | with_reducible refine then_e ?_ | with_reducible refine then_g ?_ | with_reducible refine inB_n ?_ | with_reducible refine inB_r ?_ | with_reducible refine inB_e ?_ | with_reducible refine inB_o rfl ?_ | with_reducible refine inB_g ?_ | with_reducible refine Leads.go (by assumption) ?_)
      refine PCalls.mono (LowerR_spec (nm k) _ (nm_small k)) ?_
      rintro _ H ⟨rfl, rfl⟩
      try simp [*]
      repeat (first | with_reducible refine seq_k fun K hK => ?_ | (with_reducible refine region_k fun K hK => ?_; simp [*]) | (with_reducible refine region_draw_k mixedO (by decide +kernel) fun K hK => ?_; simp [*]) | with_reducible refine pwp_block ?_ | with_reducible refine pwp_skip ?_ | with_reducible refine pwp_ret ?_ | with_reducible refine pwp_exit ?_ | (with_reducible refine cond_t ?_ ?_; (focus (simp [*]; done))) | (with_reducible refine cond_f ?_ ?_; (focus (simp [*]; done))) | with_reducible refine then_n ?_ | with_reducible refine then_r ?_ | with_reducible refine then_e ?_ | with_reducible refine then_g ?_ | with_reducible refine inB_n ?_ | with_reducible refine inB_r ?_ | with_reducible refine inB_e ?_ | with_reducible refine inB_o rfl ?_ | with_reducible refine inB_g ?_ | with_reducible refine Leads.go (by assumption) ?_)
      rw [hf]
      simp [*]
      rfl
    · by_cases h2 : s.data = (od k).data
      · have hf : fcls s = k := fcls_of h (by simp [hit, h2]) kP.out
        repeat (first | with_reducible refine seq_k fun K hK => ?_ | (with_reducible refine region_k fun K hK => ?_; simp [*]) | (with_reducible refine region_draw_k mixedO (by decide +kernel) fun K hK => ?_; simp [*]) | with_reducible refine pwp_block ?_ | with_reducible refine pwp_skip ?_ | with_reducible refine pwp_ret ?_ | with_reducible refine pwp_exit ?_ | (with_reducible refine cond_t ?_ ?_; (focus (simp [*]; done))) | (with_reducible refine cond_f ?_ ?_; (focus (simp [*]; done))) | with_reducible refine then_n ?_ | with_reducible refine then_r ?_ | with_reducible refine then_e ?_ | with_reducible refine then_g ?_ | with_reducible refine inB_n ?_ | with_reducible refine inB_r ?_ | with_reducible refine inB_e ?_ | with_reducible refine inB_o rfl ?_ | with_reducible refine inB_g ?_ | with_reducible refine Leads.go (by assumption) ?_)
        refine PCalls.mono (LowerR_spec (nm k) _ (nm_small k)) ?_
        rintro _ H ⟨rfl, rfl⟩
        try simp [*]
        repeat (first | with_reducible refine seq_k fun K hK => ?_ | (with_reducible refine region_k fun K hK => ?_; simp [*]) | (with_reducible refine region_draw_k mixedO (by decide +kernel) fun K hK => ?_; simp [*]) | with_reducible refine pwp_block ?_ | with_reducible refine pwp_skip ?_ | with_reducible refine pwp_ret ?_ | with_reducible refine pwp_exit ?_ | (with_reducible refine cond_t ?_ ?_; (focus (simp [*]; done))) | (with_reducible refine cond_f ?_ ?_; (focus (simp [*]; done))) | with_reducible refine then_n ?_ | with_reducible refine then_r ?_ | with_reducible refine then_e ?_ | with_reducible refine then_g ?_ | with_reducible refine inB_n ?_ | with_reducible refine inB_r ?_ | with_reducible refine inB_e ?_ | with_reducible refine inB_o rfl ?_ | with_reducible refine inB_g ?_ | with_reducible refine Leads.go (by assumption) ?_)
        rw [hf]
        simp [*]
        rfl
      · have hk := kP.out
        have hno : hit s k = false := by simp [hit, h1, h2]
        have hk2 : ∀ j, j < k + 1 → hit s j = false := fun j hj => by
          rcases Nat.lt_or_ge j k with q | q
          · exact hk j q
          · obtain rfl : j = k := by omega
            exact hno
        have kP2 := Hold.mk hk2
        clear hk hk2 hno
        repeat (first | with_reducible refine seq_k fun K hK => ?_ | (with_reducible refine region_k fun K hK => ?_; simp [*]) | (with_reducible refine region_draw_k mixedO (by decide +kernel) fun K hK => ?_; simp [*]) | with_reducible refine pwp_block ?_ | with_reducible refine pwp_skip ?_ | with_reducible refine pwp_ret ?_ | with_reducible refine pwp_exit ?_ | (with_reducible refine cond_t ?_ ?_; (focus (simp [*]; done))) | (with_reducible refine cond_f ?_ ?_; (focus (simp [*]; done))) | with_reducible refine then_n ?_ | with_reducible refine then_r ?_ | with_reducible refine then_e ?_ | with_reducible refine then_g ?_ | with_reducible refine inB_n ?_ | with_reducible refine inB_r ?_ | with_reducible refine inB_e ?_ | with_reducible refine inB_o rfl ?_ | with_reducible refine inB_g ?_ | with_reducible refine Leads.go (by assumption) ?_)
        refine PCalls.mono (LowerR_spec (nm k) _ (nm_small k)) ?_
        rintro _ H ⟨rfl, rfl⟩
        try simp [*]
        repeat (first | with_reducible refine seq_k fun K hK => ?_ | (with_reducible refine region_k fun K hK => ?_; simp [*]) | (with_reducible refine region_draw_k mixedO (by decide +kernel) fun K hK => ?_; simp [*]) | with_reducible refine pwp_block ?_ | with_reducible refine pwp_skip ?_ | with_reducible refine pwp_ret ?_ | with_reducible refine pwp_exit ?_ | (with_reducible refine cond_t ?_ ?_; (focus (simp [*]; done))) | (with_reducible refine cond_f ?_ ?_; (focus (simp [*]; done))) | with_reducible refine then_n ?_ | with_reducible refine then_r ?_ | with_reducible refine then_e ?_ | with_reducible refine then_g ?_ | with_reducible refine inB_n ?_ | with_reducible refine inB_r ?_ | with_reducible refine inB_e ?_ | with_reducible refine inB_o rfl ?_ | with_reducible refine inB_g ?_ | with_reducible refine Leads.go (by assumption) ?_)
        simp [*]
        exact kP2.out
  · rintro ⟨E, H, df⟩ ⟨en, edf, ⟨e0, e2, e4, e5, e6, -⟩, eN, eH, eP⟩
    simp only at en edf e0 e2 e4 e5 e6 eN eH
    subst edf
    have hf := fcls_none eP
    have hLl : ((List.range 10).map clD).length = 10 := by simp
    generalize (List.range 10).map clD = L at *
    repeat (first | with_reducible refine seq_k fun K hK => ?_ | (with_reducible refine region_k fun K hK => ?_; simp [*]) | (with_reducible refine region_draw_k mixedO (by decide +kernel) fun K hK => ?_; simp [*]) | with_reducible refine pwp_block ?_ | with_reducible refine pwp_skip ?_ | with_reducible refine pwp_ret ?_ | with_reducible refine pwp_exit ?_ | (with_reducible refine cond_t ?_ ?_; (focus (simp [*]; done))) | (with_reducible refine cond_f ?_ ?_; (focus (simp [*]; done))) | with_reducible refine then_n ?_ | with_reducible refine then_r ?_ | with_reducible refine then_e ?_ | with_reducible refine then_g ?_ | with_reducible refine inB_n ?_ | with_reducible refine inB_r ?_ | with_reducible refine inB_e ?_ | with_reducible refine inB_o rfl ?_ | with_reducible refine inB_g ?_ | with_reducible refine Leads.go (by assumption) ?_)
    rw [hf]
    simp [*]
    rfl
theorem FindClassR_spec (s : ByteArray) (H : Heap) (hs : s.size ≤ 140737488351232) : PCalls Try.prog 11 [strD s] H fun d H' => d = .tup [clD (fcls s), .val (.bool (decide (fcls s < 10)))] ∧ H' = H :=
  PCalls.liftG (FindClassR_local s hs) (fun d hd => by simp only [List.mem_cons, List.mem_nil_iff, or_false] at hd; subst hd; exact .val _)
    (.tup _ fun d hd => by simp only [List.mem_cons, List.mem_nil_iff, or_false] at hd; rcases hd with rfl | rfl; exact pure_cl _; exact .val _) H
set_option maxHeartbeats 4000000 in
set_option maxRecDepth 100000 in
theorem FindR_local (s : ByteArray) (hs : s.size ≤ 140737488351232) : PCalls Try.prog 9 [strD s] (noHeap noG) fun d _ => d = .tup [atD (fat s), .val (.bool (decide (fat s < 20)))] := by
  refine PCalls.of_pwp Try.call9 Try.func9 rfl (by simp [Try.ntmps9]) ?_
  rw [Try.ntmps9]
  repeat (first | with_reducible refine seq_k fun K hK => ?_ | (with_reducible refine region_k fun K hK => ?_; simp [*]) | (with_reducible refine region_draw_k mixedO (by decide +kernel) fun K hK => ?_; simp [*]) | with_reducible refine pwp_block ?_ | with_reducible refine pwp_skip ?_ | with_reducible refine pwp_ret ?_ | with_reducible refine pwp_exit ?_ | (with_reducible refine cond_t ?_ ?_; (focus (simp [*]; done))) | (with_reducible refine cond_f ?_ ?_; (focus (simp [*]; done))) | with_reducible refine then_n ?_ | with_reducible refine then_r ?_ | with_reducible refine then_e ?_ | with_reducible refine then_g ?_ | with_reducible refine inB_n ?_ | with_reducible refine inB_r ?_ | with_reducible refine inB_e ?_ | with_reducible refine inB_o rfl ?_ | with_reducible refine inB_g ?_ | with_reducible refine Leads.go (by assumption) ?_)
  refine PCalls.mono (AttributesR_spec _) ?_
  rintro _ H ⟨rfl, rfl⟩
  try simp [*]
  repeat (first | with_reducible refine seq_k fun K hK => ?_ | (with_reducible refine region_k fun K hK => ?_; simp [*]) | (with_reducible refine region_draw_k mixedO (by decide +kernel) fun K hK => ?_; simp [*]) | with_reducible refine pwp_block ?_ | with_reducible refine pwp_skip ?_ | with_reducible refine pwp_ret ?_ | with_reducible refine pwp_exit ?_ | (with_reducible refine cond_t ?_ ?_; (focus (simp [*]; done))) | (with_reducible refine cond_f ?_ ?_; (focus (simp [*]; done))) | with_reducible refine then_n ?_ | with_reducible refine then_r ?_ | with_reducible refine then_e ?_ | with_reducible refine then_g ?_ | with_reducible refine inB_n ?_ | with_reducible refine inB_r ?_ | with_reducible refine inB_e ?_ | with_reducible refine inB_o rfl ?_ | with_reducible refine inB_g ?_ | with_reducible refine Leads.go (by assumption) ?_)
  refine PCalls.mono (LowerR_spec s _ hs) ?_
  rintro _ H ⟨rfl, rfl⟩
  try simp [*]
  repeat (first | with_reducible refine seq_k fun K hK => ?_ | (with_reducible refine region_k fun K hK => ?_; simp [*]) | (with_reducible refine region_draw_k mixedO (by decide +kernel) fun K hK => ?_; simp [*]) | with_reducible refine pwp_block ?_ | with_reducible refine pwp_skip ?_ | with_reducible refine pwp_ret ?_ | with_reducible refine pwp_exit ?_ | (with_reducible refine cond_t ?_ ?_; (focus (simp [*]; done))) | (with_reducible refine cond_f ?_ ?_; (focus (simp [*]; done))) | with_reducible refine then_n ?_ | with_reducible refine then_r ?_ | with_reducible refine then_e ?_ | with_reducible refine then_g ?_ | with_reducible refine inB_n ?_ | with_reducible refine inB_r ?_ | with_reducible refine inB_e ?_ | with_reducible refine inB_o rfl ?_ | with_reducible refine inB_g ?_ | with_reducible refine Leads.go (by assumption) ?_)
  refine pwp_for 20 (fun k st => st.env.n = 52 ∧ st.df = [] ∧ slots st.env [(0, .val (.string s)), (2, .ptr 0 0), (4, .slice 0 26 ((List.range 20).map atD)), (5, .val (.string (lowS s))), (6, .val (.int .i64 k))] ∧
    0 < st.H.nx ∧ st.H.get 0 = some (.cells (cellsD (atD 20))) ∧ ∀ j, j < k → hitA s j = false) ?_ ?_ ?_
  · refine ⟨by simp, rfl, by simp; rfl, Nat.zero_lt_succ _, Heap.new_same _ _, fun j hj => by omega⟩
  · rintro k ⟨E, H, df⟩ h ⟨en, edf, ⟨e0, e2, e4, e5, e6, -⟩, eN, eH, eP⟩
    simp only at en edf e0 e2 e4 e5 e6 eN eH
    subst edf
    have hki : (k : Int) < 20 := by omega
    have hL : ((List.range 20).map atD)[k]? = some (atD k) := by rw [List.getElem?_map, List.getElem?_range h]; rfl
    have hLl : ((List.range 20).map atD).length = 20 := by simp
    have hge := get_of hL
    generalize (List.range 20).map atD = L at *
    have hw := wrapSucc k (by omega)
    have kP := Hold.mk eP
    clear eP
    by_cases h1 : (lowS s).data = (lowS (an k)).data
    · have hf : fat s = k := fat_of h (by simp [hitA, hitA1, h1]) kP.out
      repeat (first | with_reducible refine seq_k fun K hK => ?_ | (with_reducible refine region_k fun K hK => ?_; simp [*]) | (with_reducible refine region_draw_k mixedO (by decide +kernel) fun K hK => ?_; simp [*]) | with_reducible refine pwp_block ?_ | with_reducible refine pwp_skip ?_ | with_reducible refine pwp_ret ?_ | with_reducible refine pwp_exit ?_ | (with_reducible refine cond_t ?_ ?_; (focus (simp [*]; done))) | (with_reducible refine cond_f ?_ ?_; (focus (simp [*]; done))) | with_reducible refine then_n ?_ | with_reducible refine then_r ?_ | with_reducible refine then_e ?_ | with_reducible refine then_g ?_ | with_reducible refine inB_n ?_ | with_reducible refine inB_r ?_ | with_reducible refine inB_e ?_ | with_reducible refine inB_o rfl ?_ | with_reducible refine inB_g ?_ | with_reducible refine Leads.go (by assumption) ?_)
      refine PCalls.mono (LowerR_spec (an k) _ (an_small k)) ?_
      rintro _ H ⟨rfl, rfl⟩
      try simp [*]
      repeat (first | with_reducible refine seq_k fun K hK => ?_ | (with_reducible refine region_k fun K hK => ?_; simp [*]) | (with_reducible refine region_draw_k mixedO (by decide +kernel) fun K hK => ?_; simp [*]) | with_reducible refine pwp_block ?_ | with_reducible refine pwp_skip ?_ | with_reducible refine pwp_ret ?_ | with_reducible refine pwp_exit ?_ | (with_reducible refine cond_t ?_ ?_; (focus (simp [*]; done))) | (with_reducible refine cond_f ?_ ?_; (focus (simp [*]; done))) | with_reducible refine then_n ?_ | with_reducible refine then_r ?_ | with_reducible refine then_e ?_ | with_reducible refine then_g ?_ | with_reducible refine inB_n ?_ | with_reducible refine inB_r ?_ | with_reducible refine inB_e ?_ | with_reducible refine inB_o rfl ?_ | with_reducible refine inB_g ?_ | with_reducible refine Leads.go (by assumption) ?_)
      rw [hf]
      simp [*]
      rfl
    · have next : (hitA s k = false) → Hold (∀ j, j < k + 1 → hitA s j = false) := fun hno => ⟨fun j hj => by
        rcases Nat.lt_or_ge j k with q | q
        · exact kP.out j q
        · obtain rfl : j = k := by omega
          exact hno⟩
      by_cases h4 : (lowS s).data = (lowS (aa k)).data
      · by_cases h2 : (lowS (aa k)).data = #[]
        · have h1' : ¬ (lowS (aa k)).data = (lowS (an k)).data := fun q => h1 (h4.trans q)
          have h6 : ¬ (lowS (an k)).data = #[] := fun q => h1' (h2.trans q.symm)
          by_cases h3 : s.data = (ao k).data
          · have hf : fat s = k := fat_of h (by simp [hitA, hitA3, h3]) kP.out
            clear next
            repeat (first | with_reducible refine seq_k fun K hK => ?_ | (with_reducible refine region_k fun K hK => ?_; simp [*]) | (with_reducible refine region_draw_k mixedO (by decide +kernel) fun K hK => ?_; simp [*]) | with_reducible refine pwp_block ?_ | with_reducible refine pwp_skip ?_ | with_reducible refine pwp_ret ?_ | with_reducible refine pwp_exit ?_ | (with_reducible refine cond_t ?_ ?_; (focus (simp [*]; done))) | (with_reducible refine cond_f ?_ ?_; (focus (simp [*]; done))) | with_reducible refine then_n ?_ | with_reducible refine then_r ?_ | with_reducible refine then_e ?_ | with_reducible refine then_g ?_ | with_reducible refine inB_n ?_ | with_reducible refine inB_r ?_ | with_reducible refine inB_e ?_ | with_reducible refine inB_o rfl ?_ | with_reducible refine inB_g ?_ | with_reducible refine Leads.go (by assumption) ?_)
            refine PCalls.mono (LowerR_spec (an k) _ (an_small k)) ?_
            rintro _ H ⟨rfl, rfl⟩
            try simp [*]
            repeat (first | with_reducible refine seq_k fun K hK => ?_ | (with_reducible refine region_k fun K hK => ?_; simp [*]) | (with_reducible refine region_draw_k mixedO (by decide +kernel) fun K hK => ?_; simp [*]) | with_reducible refine pwp_block ?_ | with_reducible refine pwp_skip ?_ | with_reducible refine pwp_ret ?_ | with_reducible refine pwp_exit ?_ | (with_reducible refine cond_t ?_ ?_; (focus (simp [*]; done))) | (with_reducible refine cond_f ?_ ?_; (focus (simp [*]; done))) | with_reducible refine then_n ?_ | with_reducible refine then_r ?_ | with_reducible refine then_e ?_ | with_reducible refine then_g ?_ | with_reducible refine inB_n ?_ | with_reducible refine inB_r ?_ | with_reducible refine inB_e ?_ | with_reducible refine inB_o rfl ?_ | with_reducible refine inB_g ?_ | with_reducible refine Leads.go (by assumption) ?_)
            refine PCalls.mono (LowerR_spec (aa k) _ (aa_small k)) ?_
            rintro _ H ⟨rfl, rfl⟩
            try simp [*]
            repeat (first | with_reducible refine seq_k fun K hK => ?_ | (with_reducible refine region_k fun K hK => ?_; simp [*]) | (with_reducible refine region_draw_k mixedO (by decide +kernel) fun K hK => ?_; simp [*]) | with_reducible refine pwp_block ?_ | with_reducible refine pwp_skip ?_ | with_reducible refine pwp_ret ?_ | with_reducible refine pwp_exit ?_ | (with_reducible refine cond_t ?_ ?_; (focus (simp [*]; done))) | (with_reducible refine cond_f ?_ ?_; (focus (simp [*]; done))) | with_reducible refine then_n ?_ | with_reducible refine then_r ?_ | with_reducible refine then_e ?_ | with_reducible refine then_g ?_ | with_reducible refine inB_n ?_ | with_reducible refine inB_r ?_ | with_reducible refine inB_e ?_ | with_reducible refine inB_o rfl ?_ | with_reducible refine inB_g ?_ | with_reducible refine Leads.go (by assumption) ?_)
            rw [hf]
            simp [*]
            rfl
          · have kP2 := next (by simp [hitA, hitA1, hitA2, hitA3, h1, h4, h2, h3]; try exact h6)
            clear next
            repeat (first | with_reducible refine seq_k fun K hK => ?_ | (with_reducible refine region_k fun K hK => ?_; simp [*]) | (with_reducible refine region_draw_k mixedO (by decide +kernel) fun K hK => ?_; simp [*]) | with_reducible refine pwp_block ?_ | with_reducible refine pwp_skip ?_ | with_reducible refine pwp_ret ?_ | with_reducible refine pwp_exit ?_ | (with_reducible refine cond_t ?_ ?_; (focus (simp [*]; done))) | (with_reducible refine cond_f ?_ ?_; (focus (simp [*]; done))) | with_reducible refine then_n ?_ | with_reducible refine then_r ?_ | with_reducible refine then_e ?_ | with_reducible refine then_g ?_ | with_reducible refine inB_n ?_ | with_reducible refine inB_r ?_ | with_reducible refine inB_e ?_ | with_reducible refine inB_o rfl ?_ | with_reducible refine inB_g ?_ | with_reducible refine Leads.go (by assumption) ?_)
            refine PCalls.mono (LowerR_spec (an k) _ (an_small k)) ?_
            rintro _ H ⟨rfl, rfl⟩
            try simp [*]
            repeat (first | with_reducible refine seq_k fun K hK => ?_ | (with_reducible refine region_k fun K hK => ?_; simp [*]) | (with_reducible refine region_draw_k mixedO (by decide +kernel) fun K hK => ?_; simp [*]) | with_reducible refine pwp_block ?_ | with_reducible refine pwp_skip ?_ | with_reducible refine pwp_ret ?_ | with_reducible refine pwp_exit ?_ | (with_reducible refine cond_t ?_ ?_; (focus (simp [*]; done))) | (with_reducible refine cond_f ?_ ?_; (focus (simp [*]; done))) | with_reducible refine then_n ?_ | with_reducible refine then_r ?_ | with_reducible refine then_e ?_ | with_reducible refine then_g ?_ | with_reducible refine inB_n ?_ | with_reducible refine inB_r ?_ | with_reducible refine inB_e ?_ | with_reducible refine inB_o rfl ?_ | with_reducible refine inB_g ?_ | with_reducible refine Leads.go (by assumption) ?_)
            refine PCalls.mono (LowerR_spec (aa k) _ (aa_small k)) ?_
            rintro _ H ⟨rfl, rfl⟩
            try simp [*]
            repeat (first | with_reducible refine seq_k fun K hK => ?_ | (with_reducible refine region_k fun K hK => ?_; simp [*]) | (with_reducible refine region_draw_k mixedO (by decide +kernel) fun K hK => ?_; simp [*]) | with_reducible refine pwp_block ?_ | with_reducible refine pwp_skip ?_ | with_reducible refine pwp_ret ?_ | with_reducible refine pwp_exit ?_ | (with_reducible refine cond_t ?_ ?_; (focus (simp [*]; done))) | (with_reducible refine cond_f ?_ ?_; (focus (simp [*]; done))) | with_reducible refine then_n ?_ | with_reducible refine then_r ?_ | with_reducible refine then_e ?_ | with_reducible refine then_g ?_ | with_reducible refine inB_n ?_ | with_reducible refine inB_r ?_ | with_reducible refine inB_e ?_ | with_reducible refine inB_o rfl ?_ | with_reducible refine inB_g ?_ | with_reducible refine Leads.go (by assumption) ?_)
            simp [*]
            exact kP2.out
        · have hf : fat s = k := fat_of h (by simp [hitA, hitA2, h4, h2]) kP.out
          have h1' : ¬ (lowS (aa k)).data = (lowS (an k)).data := fun q => h1 (h4.trans q)
          clear next
          repeat (first | with_reducible refine seq_k fun K hK => ?_ | (with_reducible refine region_k fun K hK => ?_; simp [*]) | (with_reducible refine region_draw_k mixedO (by decide +kernel) fun K hK => ?_; simp [*]) | with_reducible refine pwp_block ?_ | with_reducible refine pwp_skip ?_ | with_reducible refine pwp_ret ?_ | with_reducible refine pwp_exit ?_ | (with_reducible refine cond_t ?_ ?_; (focus (simp [*]; done))) | (with_reducible refine cond_f ?_ ?_; (focus (simp [*]; done))) | with_reducible refine then_n ?_ | with_reducible refine then_r ?_ | with_reducible refine then_e ?_ | with_reducible refine then_g ?_ | with_reducible refine inB_n ?_ | with_reducible refine inB_r ?_ | with_reducible refine inB_e ?_ | with_reducible refine inB_o rfl ?_ | with_reducible refine inB_g ?_ | with_reducible refine Leads.go (by assumption) ?_)
          refine PCalls.mono (LowerR_spec (an k) _ (an_small k)) ?_
          rintro _ H ⟨rfl, rfl⟩
          try simp [*]
          repeat (first | with_reducible refine seq_k fun K hK => ?_ | (with_reducible refine region_k fun K hK => ?_; simp [*]) | (with_reducible refine region_draw_k mixedO (by decide +kernel) fun K hK => ?_; simp [*]) | with_reducible refine pwp_block ?_ | with_reducible refine pwp_skip ?_ | with_reducible refine pwp_ret ?_ | with_reducible refine pwp_exit ?_ | (with_reducible refine cond_t ?_ ?_; (focus (simp [*]; done))) | (with_reducible refine cond_f ?_ ?_; (focus (simp [*]; done))) | with_reducible refine then_n ?_ | with_reducible refine then_r ?_ | with_reducible refine then_e ?_ | with_reducible refine then_g ?_ | with_reducible refine inB_n ?_ | with_reducible refine inB_r ?_ | with_reducible refine inB_e ?_ | with_reducible refine inB_o rfl ?_ | with_reducible refine inB_g ?_ | with_reducible refine Leads.go (by assumption) ?_)
          refine PCalls.mono (LowerR_spec (aa k) _ (aa_small k)) ?_
          rintro _ H ⟨rfl, rfl⟩
          try simp [*]
          repeat (first | with_reducible refine seq_k fun K hK => ?_ | (with_reducible refine region_k fun K hK => ?_; simp [*]) | (with_reducible refine region_draw_k mixedO (by decide +kernel) fun K hK => ?_; simp [*]) | with_reducible refine pwp_block ?_ | with_reducible refine pwp_skip ?_ | with_reducible refine pwp_ret ?_ | with_reducible refine pwp_exit ?_ | (with_reducible refine cond_t ?_ ?_; (focus (simp [*]; done))) | (with_reducible refine cond_f ?_ ?_; (focus (simp [*]; done))) | with_reducible refine then_n ?_ | with_reducible refine then_r ?_ | with_reducible refine then_e ?_ | with_reducible refine then_g ?_ | with_reducible refine inB_n ?_ | with_reducible refine inB_r ?_ | with_reducible refine inB_e ?_ | with_reducible refine inB_o rfl ?_ | with_reducible refine inB_g ?_ | with_reducible refine Leads.go (by assumption) ?_)
          rw [hf]
          simp [*]
          rfl
      · by_cases h3 : s.data = (ao k).data
        · have hf : fat s = k := fat_of h (by simp [hitA, hitA3, h3]) kP.out
          clear next
          repeat (first | with_reducible refine seq_k fun K hK => ?_ | (with_reducible refine region_k fun K hK => ?_; simp [*]) | (with_reducible refine region_draw_k mixedO (by decide +kernel) fun K hK => ?_; simp [*]) | with_reducible refine pwp_block ?_ | with_reducible refine pwp_skip ?_ | with_reducible refine pwp_ret ?_ | with_reducible refine pwp_exit ?_ | (with_reducible refine cond_t ?_ ?_; (focus (simp [*]; done))) | (with_reducible refine cond_f ?_ ?_; (focus (simp [*]; done))) | with_reducible refine then_n ?_ | with_reducible refine then_r ?_ | with_reducible refine then_e ?_ | with_reducible refine then_g ?_ | with_reducible refine inB_n ?_ | with_reducible refine inB_r ?_ | with_reducible refine inB_e ?_ | with_reducible refine inB_o rfl ?_ | with_reducible refine inB_g ?_ | with_reducible refine Leads.go (by assumption) ?_)
          refine PCalls.mono (LowerR_spec (an k) _ (an_small k)) ?_
          rintro _ H ⟨rfl, rfl⟩
          try simp [*]
          repeat (first | with_reducible refine seq_k fun K hK => ?_ | (with_reducible refine region_k fun K hK => ?_; simp [*]) | (with_reducible refine region_draw_k mixedO (by decide +kernel) fun K hK => ?_; simp [*]) | with_reducible refine pwp_block ?_ | with_reducible refine pwp_skip ?_ | with_reducible refine pwp_ret ?_ | with_reducible refine pwp_exit ?_ | (with_reducible refine cond_t ?_ ?_; (focus (simp [*]; done))) | (with_reducible refine cond_f ?_ ?_; (focus (simp [*]; done))) | with_reducible refine then_n ?_ | with_reducible refine then_r ?_ | with_reducible refine then_e ?_ | with_reducible refine then_g ?_ | with_reducible refine inB_n ?_ | with_reducible refine inB_r ?_ | with_reducible refine inB_e ?_ | with_reducible refine inB_o rfl ?_ | with_reducible refine inB_g ?_ | with_reducible refine Leads.go (by assumption) ?_)
          refine PCalls.mono (LowerR_spec (aa k) _ (aa_small k)) ?_
          rintro _ H ⟨rfl, rfl⟩
          try simp [*]
          repeat (first | with_reducible refine seq_k fun K hK => ?_ | (with_reducible refine region_k fun K hK => ?_; simp [*]) | (with_reducible refine region_draw_k mixedO (by decide +kernel) fun K hK => ?_; simp [*]) | with_reducible refine pwp_block ?_ | with_reducible refine pwp_skip ?_ | with_reducible refine pwp_ret ?_ | with_reducible refine pwp_exit ?_ | (with_reducible refine cond_t ?_ ?_; (focus (simp [*]; done))) | (with_reducible refine cond_f ?_ ?_; (focus (simp [*]; done))) | with_reducible refine then_n ?_ | with_reducible refine then_r ?_ | with_reducible refine then_e ?_ | with_reducible refine then_g ?_ | with_reducible refine inB_n ?_ | with_reducible refine inB_r ?_ | with_reducible refine inB_e ?_ | with_reducible refine inB_o rfl ?_ | with_reducible refine inB_g ?_ | with_reducible refine Leads.go (by assumption) ?_)
          rw [hf]
          simp [*]
          rfl
        · have kP2 := next (by simp [hitA, hitA1, hitA2, hitA3, h1, h3, h4])
          clear next
          repeat (first | with_reducible refine seq_k fun K hK => ?_ | (with_reducible refine region_k fun K hK => ?_; simp [*]) | (with_reducible refine region_draw_k mixedO (by decide +kernel) fun K hK => ?_; simp [*]) | with_reducible refine pwp_block ?_ | with_reducible refine pwp_skip ?_ | with_reducible refine pwp_ret ?_ | with_reducible refine pwp_exit ?_ | (with_reducible refine cond_t ?_ ?_; (focus (simp [*]; done))) | (with_reducible refine cond_f ?_ ?_; (focus (simp [*]; done))) | with_reducible refine then_n ?_ | with_reducible refine then_r ?_ | with_reducible refine then_e ?_ | with_reducible refine then_g ?_ | with_reducible refine inB_n ?_ | with_reducible refine inB_r ?_ | with_reducible refine inB_e ?_ | with_reducible refine inB_o rfl ?_ | with_reducible refine inB_g ?_ | with_reducible refine Leads.go (by assumption) ?_)
          refine PCalls.mono (LowerR_spec (an k) _ (an_small k)) ?_
          rintro _ H ⟨rfl, rfl⟩
          try simp [*]
          repeat (first | with_reducible refine seq_k fun K hK => ?_ | (with_reducible refine region_k fun K hK => ?_; simp [*]) | (with_reducible refine region_draw_k mixedO (by decide +kernel) fun K hK => ?_; simp [*]) | with_reducible refine pwp_block ?_ | with_reducible refine pwp_skip ?_ | with_reducible refine pwp_ret ?_ | with_reducible refine pwp_exit ?_ | (with_reducible refine cond_t ?_ ?_; (focus (simp [*]; done))) | (with_reducible refine cond_f ?_ ?_; (focus (simp [*]; done))) | with_reducible refine then_n ?_ | with_reducible refine then_r ?_ | with_reducible refine then_e ?_ | with_reducible refine then_g ?_ | with_reducible refine inB_n ?_ | with_reducible refine inB_r ?_ | with_reducible refine inB_e ?_ | with_reducible refine inB_o rfl ?_ | with_reducible refine inB_g ?_ | with_reducible refine Leads.go (by assumption) ?_)
          refine PCalls.mono (LowerR_spec (aa k) _ (aa_small k)) ?_
          rintro _ H ⟨rfl, rfl⟩
          try simp [*]
          repeat (first | with_reducible refine seq_k fun K hK => ?_ | (with_reducible refine region_k fun K hK => ?_; simp [*]) | (with_reducible refine region_draw_k mixedO (by decide +kernel) fun K hK => ?_; simp [*]) | with_reducible refine pwp_block ?_ | with_reducible refine pwp_skip ?_ | with_reducible refine pwp_ret ?_ | with_reducible refine pwp_exit ?_ | (with_reducible refine cond_t ?_ ?_; (focus (simp [*]; done))) | (with_reducible refine cond_f ?_ ?_; (focus (simp [*]; done))) | with_reducible refine then_n ?_ | with_reducible refine then_r ?_ | with_reducible refine then_e ?_ | with_reducible refine then_g ?_ | with_reducible refine inB_n ?_ | with_reducible refine inB_r ?_ | with_reducible refine inB_e ?_ | with_reducible refine inB_o rfl ?_ | with_reducible refine inB_g ?_ | with_reducible refine Leads.go (by assumption) ?_)
          simp [*]
          exact kP2.out
  · rintro ⟨E, H, df⟩ ⟨en, edf, ⟨e0, e2, e4, e5, e6, -⟩, eN, eH, eP⟩
    simp only at en edf e0 e2 e4 e5 e6 eN eH
    subst edf
    have hf := fat_none eP
    have hLl : ((List.range 20).map atD).length = 20 := by simp
    generalize (List.range 20).map atD = L at *
    repeat (first | with_reducible refine seq_k fun K hK => ?_ | (with_reducible refine region_k fun K hK => ?_; simp [*]) | (with_reducible refine region_draw_k mixedO (by decide +kernel) fun K hK => ?_; simp [*]) | with_reducible refine pwp_block ?_ | with_reducible refine pwp_skip ?_ | with_reducible refine pwp_ret ?_ | with_reducible refine pwp_exit ?_ | (with_reducible refine cond_t ?_ ?_; (focus (simp [*]; done))) | (with_reducible refine cond_f ?_ ?_; (focus (simp [*]; done))) | with_reducible refine then_n ?_ | with_reducible refine then_r ?_ | with_reducible refine then_e ?_ | with_reducible refine then_g ?_ | with_reducible refine inB_n ?_ | with_reducible refine inB_r ?_ | with_reducible refine inB_e ?_ | with_reducible refine inB_o rfl ?_ | with_reducible refine inB_g ?_ | with_reducible refine Leads.go (by assumption) ?_)
    rw [hf]
    simp [*]
    rfl
theorem FindR_spec (s : ByteArray) (H : Heap) (hs : s.size ≤ 140737488351232) : PCalls Try.prog 9 [strD s] H fun d H' => d = .tup [atD (fat s), .val (.bool (decide (fat s < 20)))] ∧ H' = H :=
  PCalls.liftG (FindR_local s hs) (fun d hd => by simp only [List.mem_cons, List.mem_nil_iff, or_false] at hd; subst hd; exact .val _)
    (.tup _ fun d hd => by simp only [List.mem_cons, List.mem_nil_iff, or_false] at hd; rcases hd with rfl | rfl; exact pure_at _; exact .val _) H
set_option maxHeartbeats 4000000 in
set_option maxRecDepth 100000 in
theorem hasR_spec (g : Nat) (e : TypeId) (l : List (List UInt8)) (s : List UInt8) (he : l = [] ∨ e = 9) (hl : l.length ≤ 100000) (H : Heap) : PCalls Try.prog 34 [.slice g e (lb l), .val (encStr s)] H fun d H' => d = .val (.bool (decide (s ∈ l))) ∧ H' = H := by
  refine PCalls.of_pwp Try.call34 Try.func34 rfl (by simp [Try.ntmps34]) ?_
  rw [Try.ntmps34]
  repeat (first | with_reducible refine seq_k fun K hK => ?_ | (with_reducible refine region_k fun K hK => ?_; simp [*]) | (with_reducible refine region_draw_k mixedO (by decide +kernel) fun K hK => ?_; simp [*]) | with_reducible refine pwp_block ?_ | with_reducible refine pwp_skip ?_ | with_reducible refine pwp_ret ?_ | with_reducible refine pwp_exit ?_ | (with_reducible refine cond_t ?_ ?_; (focus (simp [*]; done))) | (with_reducible refine cond_f ?_ ?_; (focus (simp [*]; done))) | with_reducible refine then_n ?_ | with_reducible refine then_r ?_ | with_reducible refine then_e ?_ | with_reducible refine then_g ?_ | with_reducible refine inB_n ?_ | with_reducible refine inB_r ?_ | with_reducible refine inB_e ?_ | with_reducible refine inB_o rfl ?_ | with_reducible refine inB_g ?_ | with_reducible refine Leads.go (by assumption) ?_)
  refine pwp_for l.length (fun k st => st.env.n = 18 ∧ st.df = [] ∧ st.H = H ∧ slots st.env [(0, .slice g e (lb l)), (1, .val (.string ⟨s.toArray⟩)), (5, .val (.int .i64 k))] ∧ s ∉ l.take k) ?_ ?_ ?_
  · simp
  · rintro k ⟨E, H2, df⟩ h ⟨en, edf, eH, ⟨e0, e1, e5, -⟩, eP⟩
    simp only at en edf eH e0 e1 e5
    subst edf; subst eH
    have hki : (k : Int) < (l.length : Int) := by omega
    obtain ⟨c, hc⟩ : ∃ c, l[k]? = some c := ⟨_, List.getElem?_eq_getElem h⟩
    have hL := lb_get hc
    have hge := get_of hL
    have hLl : (lb l).length = l.length := lb_len l
    obtain rfl : e = 9 := he.resolve_left (fun q => by subst q; simp at h)
    have hw := wrapSucc k (by omega)
    have hT : l.take (k + 1) = l.take k ++ [c] := by rw [List.take_add_one, hc]; rfl
    generalize lb l = L at *
    by_cases h1 : c = s
    · repeat (first | with_reducible refine seq_k fun K hK => ?_ | (with_reducible refine region_k fun K hK => ?_; simp [*]) | (with_reducible refine region_draw_k mixedO (by decide +kernel) fun K hK => ?_; simp [*]) | with_reducible refine pwp_block ?_ | with_reducible refine pwp_skip ?_ | with_reducible refine pwp_ret ?_ | with_reducible refine pwp_exit ?_ | (with_reducible refine cond_t ?_ ?_; (focus (simp [*]; done))) | (with_reducible refine cond_f ?_ ?_; (focus (simp [*]; done))) | with_reducible refine then_n ?_ | with_reducible refine then_r ?_ | with_reducible refine then_e ?_ | with_reducible refine then_g ?_ | with_reducible refine inB_n ?_ | with_reducible refine inB_r ?_ | with_reducible refine inB_e ?_ | with_reducible refine inB_o rfl ?_ | with_reducible refine inB_g ?_ | with_reducible refine Leads.go (by assumption) ?_)
      simp [*]
      subst h1
      exact List.mem_of_getElem? hc
    · have h2 : ¬ s = c := fun q => h1 q.symm
      repeat (first | with_reducible refine seq_k fun K hK => ?_ | (with_reducible refine region_k fun K hK => ?_; simp [*]) | (with_reducible refine region_draw_k mixedO (by decide +kernel) fun K hK => ?_; simp [*]) | with_reducible refine pwp_block ?_ | with_reducible refine pwp_skip ?_ | with_reducible refine pwp_ret ?_ | with_reducible refine pwp_exit ?_ | (with_reducible refine cond_t ?_ ?_; (focus (simp [*]; done))) | (with_reducible refine cond_f ?_ ?_; (focus (simp [*]; done))) | with_reducible refine then_n ?_ | with_reducible refine then_r ?_ | with_reducible refine then_e ?_ | with_reducible refine then_g ?_ | with_reducible refine inB_n ?_ | with_reducible refine inB_r ?_ | with_reducible refine inB_e ?_ | with_reducible refine inB_o rfl ?_ | with_reducible refine inB_g ?_ | with_reducible refine Leads.go (by assumption) ?_)
      simp [*]
  · rintro ⟨E, H2, df⟩ ⟨en, edf, eH, ⟨e0, e1, e5, -⟩, eP⟩
    simp only at en edf eH e0 e1 e5
    subst edf; subst eH
    rw [List.take_length] at eP
    repeat (first | with_reducible refine seq_k fun K hK => ?_ | (with_reducible refine region_k fun K hK => ?_; simp [*]) | (with_reducible refine region_draw_k mixedO (by decide +kernel) fun K hK => ?_; simp [*]) | with_reducible refine pwp_block ?_ | with_reducible refine pwp_skip ?_ | with_reducible refine pwp_ret ?_ | with_reducible refine pwp_exit ?_ | (with_reducible refine cond_t ?_ ?_; (focus (simp [*]; done))) | (with_reducible refine cond_f ?_ ?_; (focus (simp [*]; done))) | with_reducible refine then_n ?_ | with_reducible refine then_r ?_ | with_reducible refine then_e ?_ | with_reducible refine then_g ?_ | with_reducible refine inB_n ?_ | with_reducible refine inB_r ?_ | with_reducible refine inB_e ?_ | with_reducible refine inB_o rfl ?_ | with_reducible refine inB_g ?_ | with_reducible refine Leads.go (by assumption) ?_)
    simp [*]
theorem ch_step : ∀ y, y < 10 → ∀ k, k < (ch y).length → (ch y).getD k 0 < 10 ∧ fcls (nm ((ch y).getD k 0)) = (ch y).getD k 0 ∧ (if k + 1 < (ch y).length then (sp ((ch y).getD k 0)).data = (nm ((ch y).getD (k + 1) 0)).data ∧ ¬ (sp ((ch y).getD k 0)).data = #[] else (sp ((ch y).getD k 0)).data = #[]) := by decide +kernel
theorem nm_eq2 {a b : Nat} (ha : a < 10) (hb : b < 10) : (nm a).data = (nm b).data ↔ a = b := by have := nm_eq a ha b hb; simpa using this
theorem ba_ext {a b : ByteArray} (h : a.data = b.data) : a = b := by cases a; cases b; simp_all
set_option maxHeartbeats 4000000 in
set_option maxRecDepth 100000 in
theorem AboveR_local {x y : Nat} (hx : x < 10) (hy : y < 10) : PCalls Try.prog 32 [strD (nm x), strD (nm y)] (noHeap noG) fun d _ => d = .val (.bool (abv x y)) := by
  refine PCalls.of_pwp Try.call32 Try.func32 rfl (by simp [Try.ntmps32]) ?_
  rw [Try.ntmps32]
  have hc3 := ch_len y
  have hc0 : 0 < (ch y).length := by unfold ch; split <;> simp
  have hcy : (ch y).getD 0 0 = y := by unfold ch; split <;> rfl
  have hcy2 : (ch y)[0]?.getD 0 = y := hcy
  have hst := ch_step y hy
  repeat (first | with_reducible refine seq_k fun K hK => ?_ | (with_reducible refine region_k fun K hK => ?_; simp [*]) | (with_reducible refine region_draw_k mixedO (by decide +kernel) fun K hK => ?_; simp [*]) | with_reducible refine pwp_block ?_ | with_reducible refine pwp_skip ?_ | with_reducible refine pwp_ret ?_ | with_reducible refine pwp_exit ?_ | (with_reducible refine cond_t ?_ ?_; (focus (simp [*]; done))) | (with_reducible refine cond_f ?_ ?_; (focus (simp [*]; done))) | with_reducible refine then_n ?_ | with_reducible refine then_r ?_ | with_reducible refine then_e ?_ | with_reducible refine then_g ?_ | with_reducible refine inB_n ?_ | with_reducible refine inB_r ?_ | with_reducible refine inB_e ?_ | with_reducible refine inB_o rfl ?_ | with_reducible refine inB_g ?_ | with_reducible refine Leads.go (by assumption) ?_)
  refine pwp_for (ch y).length (fun k st => k < (ch y).length ∧ st.env.n = 29 ∧ st.df = [] ∧ slots st.env [(0, .val (.string (nm x))), (1, .val (.string (nm ((ch y).getD k 0)))), (5, .val (.int .i64 k))] ∧ x ∉ (ch y).take k) ?_ ?_ ?_
  · refine ⟨hc0, by simp, rfl, by simp [hcy2], by simp⟩
  · rintro k ⟨E, H, df⟩ h ⟨_, en, edf, ⟨e0, e1, e5, -⟩, eP⟩
    simp only at en edf e0 e1 e5
    subst edf
    have hk10 : (k : Int) < 10 := by omega
    have hw := wrapSucc k (by omega)
    obtain ⟨c10, cf, cs⟩ := hst k h
    have hgk : (ch y)[k]? = some ((ch y).getD k 0) := by simp [List.getD, List.getElem?_eq_getElem h]
    have hT : (ch y).take (k + 1) = (ch y).take k ++ [(ch y).getD k 0] := by rw [List.take_add_one, hgk]; rfl
    have hgm := List.mem_of_getElem? hgk
    have hfc := fun H => FindClassR_spec (nm ((ch y).getD k 0)) H (nm_small _)
    rw [cf] at hfc
    generalize hc : (ch y).getD k 0 = c at *
    clear hst hcy hcy2 hc hgk
    by_cases h1 : x = c
    · have hv : abv x y = true := by rw [abv, List.contains_iff_mem, h1]; exact hgm
      subst h1
      repeat (first | with_reducible refine seq_k fun K hK => ?_ | (with_reducible refine region_k fun K hK => ?_; simp [*]) | (with_reducible refine region_draw_k mixedO (by decide +kernel) fun K hK => ?_; simp [*]) | with_reducible refine pwp_block ?_ | with_reducible refine pwp_skip ?_ | with_reducible refine pwp_ret ?_ | with_reducible refine pwp_exit ?_ | (with_reducible refine cond_t ?_ ?_; (focus (simp [*]; done))) | (with_reducible refine cond_f ?_ ?_; (focus (simp [*]; done))) | with_reducible refine then_n ?_ | with_reducible refine then_r ?_ | with_reducible refine then_e ?_ | with_reducible refine then_g ?_ | with_reducible refine inB_n ?_ | with_reducible refine inB_r ?_ | with_reducible refine inB_e ?_ | with_reducible refine inB_o rfl ?_ | with_reducible refine inB_g ?_ | with_reducible refine Leads.go (by assumption) ?_)
      simp [*]
    · have h1' : ¬ (nm x).data = (nm c).data := fun q => h1 ((nm_eq2 hx c10).1 q)
      have kT := Hold.mk hT
      have kP := Hold.mk eP
      clear hT eP
      by_cases hk : k + 1 < (ch y).length
      · rw [if_pos hk] at cs
        obtain ⟨cs1, cs2⟩ := cs
        obtain ⟨d, hd⟩ : ∃ d, d = (ch y).getD (k + 1) 0 := ⟨_, rfl⟩
        rw [← hd] at cs1
        have cs3 : sp c = nm d := ba_ext cs1
        rw [cs3] at cs2
        have kd := Hold.mk hd
        clear cs1 hd
        repeat (first | with_reducible refine seq_k fun K hK => ?_ | (with_reducible refine region_k fun K hK => ?_; simp [*]) | (with_reducible refine region_draw_k mixedO (by decide +kernel) fun K hK => ?_; simp [*]) | with_reducible refine pwp_block ?_ | with_reducible refine pwp_skip ?_ | with_reducible refine pwp_ret ?_ | with_reducible refine pwp_exit ?_ | (with_reducible refine cond_t ?_ ?_; (focus (simp [*]; done))) | (with_reducible refine cond_f ?_ ?_; (focus (simp [*]; done))) | with_reducible refine then_n ?_ | with_reducible refine then_r ?_ | with_reducible refine then_e ?_ | with_reducible refine then_g ?_ | with_reducible refine inB_n ?_ | with_reducible refine inB_r ?_ | with_reducible refine inB_e ?_ | with_reducible refine inB_o rfl ?_ | with_reducible refine inB_g ?_ | with_reducible refine Leads.go (by assumption) ?_)
        refine PCalls.mono (hfc _) ?_
        rintro _ H ⟨rfl, rfl⟩
        clear hfc
        try simp [*]
        repeat (first | with_reducible refine seq_k fun K hK => ?_ | (with_reducible refine region_k fun K hK => ?_; simp [*]) | (with_reducible refine region_draw_k mixedO (by decide +kernel) fun K hK => ?_; simp [*]) | with_reducible refine pwp_block ?_ | with_reducible refine pwp_skip ?_ | with_reducible refine pwp_ret ?_ | with_reducible refine pwp_exit ?_ | (with_reducible refine cond_t ?_ ?_; (focus (simp [*]; done))) | (with_reducible refine cond_f ?_ ?_; (focus (simp [*]; done))) | with_reducible refine then_n ?_ | with_reducible refine then_r ?_ | with_reducible refine then_e ?_ | with_reducible refine then_g ?_ | with_reducible refine inB_n ?_ | with_reducible refine inB_r ?_ | with_reducible refine inB_e ?_ | with_reducible refine inB_o rfl ?_ | with_reducible refine inB_g ?_ | with_reducible refine Leads.go (by assumption) ?_)
        rw [← kd.out]
        refine ⟨hk, by simp [*], rfl, by simp [*], ?_⟩
        rw [kT.out, List.mem_append, List.mem_singleton]
        exact fun q => q.elim kP.out h1
      · rw [if_neg hk] at cs
        have hv : abv x y = false := by
          have : ¬ x ∈ ch y := fun q => by
            have e : (ch y).take (k + 1) = ch y := List.take_of_length_le (by omega)
            have h5 := kT.out
            rw [e] at h5
            rw [h5, List.mem_append, List.mem_singleton] at q
            exact q.elim kP.out h1
          rw [abv]; simpa using this
        repeat (first | with_reducible refine seq_k fun K hK => ?_ | (with_reducible refine region_k fun K hK => ?_; simp [*]) | (with_reducible refine region_draw_k mixedO (by decide +kernel) fun K hK => ?_; simp [*]) | with_reducible refine pwp_block ?_ | with_reducible refine pwp_skip ?_ | with_reducible refine pwp_ret ?_ | with_reducible refine pwp_exit ?_ | (with_reducible refine cond_t ?_ ?_; (focus (simp [*]; done))) | (with_reducible refine cond_f ?_ ?_; (focus (simp [*]; done))) | with_reducible refine then_n ?_ | with_reducible refine then_r ?_ | with_reducible refine then_e ?_ | with_reducible refine then_g ?_ | with_reducible refine inB_n ?_ | with_reducible refine inB_r ?_ | with_reducible refine inB_e ?_ | with_reducible refine inB_o rfl ?_ | with_reducible refine inB_g ?_ | with_reducible refine Leads.go (by assumption) ?_)
        refine PCalls.mono (hfc _) ?_
        rintro _ H ⟨rfl, rfl⟩
        clear hfc
        try simp [*]
        repeat (first | with_reducible refine seq_k fun K hK => ?_ | (with_reducible refine region_k fun K hK => ?_; simp [*]) | (with_reducible refine region_draw_k mixedO (by decide +kernel) fun K hK => ?_; simp [*]) | with_reducible refine pwp_block ?_ | with_reducible refine pwp_skip ?_ | with_reducible refine pwp_ret ?_ | with_reducible refine pwp_exit ?_ | (with_reducible refine cond_t ?_ ?_; (focus (simp [*]; done))) | (with_reducible refine cond_f ?_ ?_; (focus (simp [*]; done))) | with_reducible refine then_n ?_ | with_reducible refine then_r ?_ | with_reducible refine then_e ?_ | with_reducible refine then_g ?_ | with_reducible refine inB_n ?_ | with_reducible refine inB_r ?_ | with_reducible refine inB_e ?_ | with_reducible refine inB_o rfl ?_ | with_reducible refine inB_g ?_ | with_reducible refine Leads.go (by assumption) ?_)
        simp [*]
  · rintro ⟨E, H, df⟩ ⟨h, _⟩
    exact absurd h (Nat.lt_irrefl _)
theorem AboveR_spec {x y : Nat} (hx : x < 10) (hy : y < 10) (H : Heap) : PCalls Try.prog 32 [strD (nm x), strD (nm y)] H fun d H' => d = .val (.bool (abv x y)) ∧ H' = H :=
  PCalls.liftG (AboveR_local hx hy) (fun d hd => by simp only [List.mem_cons, List.mem_nil_iff, or_false] at hd; rcases hd with rfl | rfl <;> exact .val _) (.val _) H
end Go.Pv
