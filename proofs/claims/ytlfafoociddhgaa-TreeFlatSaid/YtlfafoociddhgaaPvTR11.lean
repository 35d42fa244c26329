/- A part of the proof: functions of the program, walked, or what operations come to. -/
import Derived.Test.YtlfafoociddhgaaPvTR10
-- ZpvTameA ZpvDrawT
namespace Go.Pv
open Go.Proofs
attribute [local simp] Try.underlying3 Try.underlying4 Try.underlying5 Try.underlying9 Try.underlying22 Try.underlying23 Try.underlying25 Try.underlying33 Try.underlying36 Try.underlying62 Try.underlying71 Heap.new_get Heap.put_get strD fillD entC eBuildSlice
@[simp] theorem res3 : Try.f3.results.toList = [.tmp 4] := rfl
def intD (v : Int) : D := .val (.int .i64 v)
theorem flat_bal {n : Nat} {t : T} (h : Bal n t) (hn : n ≤ 2000) (i : Nat) (H : Heap) (hi : H.get i = some (.cells [treeD t])) : PCalls Try.prog 6 [.ptr i 0] H fun d H' => d = .val (.bool true) ∧ H' = H :=
  flat_spec t i H hi (bal_sz h) (by have := h.2; omega) (bal_h h hn) (bal_0 h)
def oX : ByteArray := ⟨#[111, 61, 120]⟩
def oY : ByteArray := ⟨#[111, 61, 121]⟩
theorem oX_plain : plainS oX := by unfold plainS; decide
theorem oY_plain : plainS oY := by unfold plainS; decide
theorem oX_nz : nz (withT (ord1 oX) oX .nil) := ⟨by decide, trivial, trivial⟩
theorem two_sz : (withT (ord1 oY) oY (withT (ord1 oX) oX .nil)).sz = 2 := by decide +kernel
set_option maxHeartbeats 8000000 in
set_option maxRecDepth 100000 in
theorem law_walk (g g2 : Nat) (a b : List Int) (H : Heap) : PCalls Try.prog 3 [.slice g 3 (a.map intD), .slice g2 3 (b.map intD)] H fun d _ => d = .val (.bool true) := by
  refine PCalls.of_pwp Try.call3 Try.func3 rfl (by simp [Try.ntmps3]) ?_
  rw [Try.ntmps3]
  by_cases c1 : 600 < a.length
  · have c1' : (600 : Int) < (a.length : Int) := by omega
    repeat (first | with_reducible refine seq_k fun K hK => ?_ | (with_reducible refine region_k fun K hK => ?_; simp [*]) | (with_reducible refine region_drawT_k mixedO (by decide +kernel) fun K hK => ?_; simp [*]) | (with_reducible refine region_tame_a mixedO (by decide +kernel) fun K hK => ?_; simp [*, Low, isLoadB, isTameB, List.range_succ, List.range']) | with_reducible refine pwp_block ?_ | with_reducible refine pwp_skip ?_ | with_reducible refine pwp_ret ?_ | with_reducible refine pwp_exit ?_ | (with_reducible refine cond_t ?_ ?_; (focus (simp [*]; done))) | (with_reducible refine cond_f ?_ ?_; (focus (simp [*]; done))) | with_reducible refine then_n ?_ | with_reducible refine then_r ?_ | with_reducible refine then_e ?_ | with_reducible refine then_g ?_ | with_reducible refine inB_n ?_ | with_reducible refine inB_r ?_ | with_reducible refine inB_e ?_ | with_reducible refine inB_o rfl ?_ | with_reducible refine inB_g ?_ | with_reducible refine Leads.go (by assumption) ?_)
    simp [*]
  by_cases c2 : 600 < b.length
  · have c1' : ¬ (600 : Int) < (a.length : Int) := by omega
    have c2' : (600 : Int) < (b.length : Int) := by omega
    repeat (first | with_reducible refine seq_k fun K hK => ?_ | (with_reducible refine region_k fun K hK => ?_; simp [*]) | (with_reducible refine region_drawT_k mixedO (by decide +kernel) fun K hK => ?_; simp [*]) | (with_reducible refine region_tame_a mixedO (by decide +kernel) fun K hK => ?_; simp [*, Low, isLoadB, isTameB, List.range_succ, List.range']) | with_reducible refine pwp_block ?_ | with_reducible refine pwp_skip ?_ | with_reducible refine pwp_ret ?_ | with_reducible refine pwp_exit ?_ | (with_reducible refine cond_t ?_ ?_; (focus (simp [*]; done))) | (with_reducible refine cond_f ?_ ?_; (focus (simp [*]; done))) | with_reducible refine then_n ?_ | with_reducible refine then_r ?_ | with_reducible refine then_e ?_ | with_reducible refine then_g ?_ | with_reducible refine inB_n ?_ | with_reducible refine inB_r ?_ | with_reducible refine inB_e ?_ | with_reducible refine inB_o rfl ?_ | with_reducible refine inB_g ?_ | with_reducible refine Leads.go (by assumption) ?_)
    simp [*]
  have c1' : ¬ (600 : Int) < (a.length : Int) := by omega
  have c2' : ¬ (600 : Int) < (b.length : Int) := by omega
  have a6 : a.length ≤ 600 := by omega
  have b6 : b.length ≤ 600 := by omega
  obtain ⟨al, hal⟩ : ∃ al, al = a.length := ⟨_, rfl⟩
  obtain ⟨bl, hbl⟩ : ∃ bl, bl = b.length := ⟨_, rfl⟩
  have hA : (a.map intD).length = al := by rw [hal, List.length_map]
  have hB : (b.map intD).length = bl := by rw [hbl, List.length_map]
  have gA : ∀ k, k < al → ∃ v, (a.map intD)[k]? = some (.val (.int .i64 v)) := fun k hk => ⟨a[k]'(by omega), by simp [intD, show k < a.length by omega]⟩
  have gB : ∀ k, k < bl → ∃ v, (b.map intD)[k]? = some (.val (.int .i64 v)) := fun k hk => ⟨b[k]'(by omega), by simp [intD, show k < b.length by omega]⟩
  rw [← hal] at a6 c1'
  rw [← hbl] at b6 c2'
  generalize a.map intD = A at *
  generalize b.map intD = B at *
  clear c1 c2 hal hbl a b
  repeat (first | with_reducible refine seq_k fun K hK => ?_ | (with_reducible refine region_k fun K hK => ?_; simp [*]) | (with_reducible refine region_drawT_k mixedO (by decide +kernel) fun K hK => ?_; simp [*]) | (with_reducible refine region_tame_a mixedO (by decide +kernel) fun K hK => ?_; simp [*, Low, isLoadB, isTameB, List.range_succ, List.range']) | with_reducible refine pwp_block ?_ | with_reducible refine pwp_skip ?_ | with_reducible refine pwp_ret ?_ | with_reducible refine pwp_exit ?_ | (with_reducible refine cond_t ?_ ?_; (focus (simp [*]; done))) | (with_reducible refine cond_f ?_ ?_; (focus (simp [*]; done))) | with_reducible refine then_n ?_ | with_reducible refine then_r ?_ | with_reducible refine then_e ?_ | with_reducible refine then_g ?_ | with_reducible refine inB_n ?_ | with_reducible refine inB_r ?_ | with_reducible refine inB_e ?_ | with_reducible refine inB_o rfl ?_ | with_reducible refine inB_g ?_ | with_reducible refine Leads.go (by assumption) ?_)
  refine pwp_loop (fun m st => ∃ (k : Nat) (t : T), m = al - k ∧ k ≤ al ∧ Bal k t ∧ st.env.n = 60 ∧ st.df = [] ∧ st.H.get H.nx = some (.cells [treeD t]) ∧ st.H.nx = H.nx + 1 ∧ st.env.get 0 = .slice g 3 A ∧ st.env.get 1 = .slice g2 3 B ∧ st.env.get 5 = .ptr H.nx 0 ∧
    st.env.get 6 = .val (.func (.func 5) #[] #[]) ∧ st.env.get 7 = .clo (.func 6) [] [.ptr H.nx 0] ∧ st.env.get 8 = .val (.int .i64 (k : Nat))) al ⟨0, .nil, rfl, by omega, bal_nil, by simp, rfl, by simp, by simp, by simp, by simp, by simp, by simp, by simp, by simp⟩ ?_
  rintro m ⟨E, H2, df⟩ ⟨k, t, rfl, hk, hb, en, edf, eT, eN, e0, e1, e5, e6, e7, e8⟩
  simp only at en edf eT eN e0 e1 e5 e6 e7 e8
  subst edf
  by_cases h : k < al
  · have hki : (k : Int) < (al : Int) := by omega
    have hw := wrapSucc k (by omega)
    obtain ⟨v, hv⟩ := gA k h
    have hv2 : ∀ h, A[k]'h = .val (.int .i64 v) := fun h => by have := hv; rw [List.getElem?_eq_getElem h] at this; exact Option.some.inj this
    have hlt2 : H.nx < H2.nx := by omega
    have kN := Hold.mk eN
    have kG := Hold.mk gA
    have kG2 := Hold.mk gB
    clear eN gA gB
    have hn := name_spec v
    repeat (first | with_reducible refine seq_k fun K hK => ?_ | (with_reducible refine region_k fun K hK => ?_; simp [*]) | (with_reducible refine region_drawT_k mixedO (by decide +kernel) fun K hK => ?_; simp [*]) | (with_reducible refine region_tame_a mixedO (by decide +kernel) fun K hK => ?_; simp [*, Low, isLoadB, isTameB, List.range_succ, List.range']) | with_reducible refine pwp_block ?_ | with_reducible refine pwp_skip ?_ | with_reducible refine pwp_ret ?_ | with_reducible refine pwp_exit ?_ | (with_reducible refine cond_t ?_ ?_; (focus (simp [*]; done))) | (with_reducible refine cond_f ?_ ?_; (focus (simp [*]; done))) | with_reducible refine then_n ?_ | with_reducible refine then_r ?_ | with_reducible refine then_e ?_ | with_reducible refine then_g ?_ | with_reducible refine inB_n ?_ | with_reducible refine inB_r ?_ | with_reducible refine inB_e ?_ | with_reducible refine inB_o rfl ?_ | with_reducible refine inB_g ?_ | with_reducible refine Leads.go (by assumption) ?_)
    refine PCalls.mono (hn _) ?_
    intro d3 H3 hd3
    obtain ⟨⟨s, hs, ps, zs⟩, hH⟩ := hd3
    rw [hs, hH]
    clear hs hH d3 H3 hn
    have hwi := With_spec t (bal_nz hb) s ps (by omega) (by omega)
    have hb2 := bal_with hb (by omega) (ord1 s) s
    generalize withT (ord1 s) s t = t2 at *
    clear ps zs
    have hfl := fun H9 hi => flat_bal hb2 (by omega) H.nx H9 hi
    simp only [tr, enD, entC, strD] at hwi ⊢
    simp [*]
    refine PCalls.mono (hwi _) ?_
    intro d3 H3 hd3
    rw [hd3.1, hd3.2]
    clear hd3
    try simp [*]
    repeat (first | with_reducible refine seq_k fun K hK => ?_ | (with_reducible refine region_k fun K hK => ?_; simp [*]) | (with_reducible refine region_drawT_k mixedO (by decide +kernel) fun K hK => ?_; simp [*]) | (with_reducible refine region_tame_a mixedO (by decide +kernel) fun K hK => ?_; simp [*, Low, isLoadB, isTameB, List.range_succ, List.range']) | with_reducible refine pwp_block ?_ | with_reducible refine pwp_skip ?_ | with_reducible refine pwp_ret ?_ | with_reducible refine pwp_exit ?_ | (with_reducible refine cond_t ?_ ?_; (focus (simp [*]; done))) | (with_reducible refine cond_f ?_ ?_; (focus (simp [*]; done))) | with_reducible refine then_n ?_ | with_reducible refine then_r ?_ | with_reducible refine then_e ?_ | with_reducible refine then_g ?_ | with_reducible refine inB_n ?_ | with_reducible refine inB_r ?_ | with_reducible refine inB_e ?_ | with_reducible refine inB_o rfl ?_ | with_reducible refine inB_g ?_ | with_reducible refine Leads.go (by assumption) ?_)
    refine PCalls.mono (hfl _ ?_) ?_
    · simp [*]
    intro d3 H3 hd3
    rw [hd3.1, hd3.2]
    clear hd3
    try simp [*]
    repeat (first | with_reducible refine seq_k fun K hK => ?_ | (with_reducible refine region_k fun K hK => ?_; simp [*]) | (with_reducible refine region_drawT_k mixedO (by decide +kernel) fun K hK => ?_; simp [*]) | (with_reducible refine region_tame_a mixedO (by decide +kernel) fun K hK => ?_; simp [*, Low, isLoadB, isTameB, List.range_succ, List.range']) | with_reducible refine pwp_block ?_ | with_reducible refine pwp_skip ?_ | with_reducible refine pwp_ret ?_ | with_reducible refine pwp_exit ?_ | (with_reducible refine cond_t ?_ ?_; (focus (simp [*]; done))) | (with_reducible refine cond_f ?_ ?_; (focus (simp [*]; done))) | with_reducible refine then_n ?_ | with_reducible refine then_r ?_ | with_reducible refine then_e ?_ | with_reducible refine then_g ?_ | with_reducible refine inB_n ?_ | with_reducible refine inB_r ?_ | with_reducible refine inB_e ?_ | with_reducible refine inB_o rfl ?_ | with_reducible refine inB_g ?_ | with_reducible refine Leads.go (by assumption) ?_)
    refine ⟨al - (k + 1), by omega, k + 1, t2, rfl, by omega, hb2, by simp [*], rfl, by simp [*], ?_, by simp [*], by simp [*], by simp [*], by simp [*], by simp [*], by simp [*]⟩
    have := kN.out
    simp [this]
  · have ek : k = al := by omega
    subst ek
    clear gA
    have kN := Hold.mk eN
    have kG := Hold.mk gB
    clear eN gB h
    repeat (first | with_reducible refine seq_k fun K hK => ?_ | (with_reducible refine region_k fun K hK => ?_; simp [*]) | (with_reducible refine region_drawT_k mixedO (by decide +kernel) fun K hK => ?_; simp [*]) | (with_reducible refine region_tame_a mixedO (by decide +kernel) fun K hK => ?_; simp [*, Low, isLoadB, isTameB, List.range_succ, List.range']) | with_reducible refine pwp_block ?_ | with_reducible refine pwp_skip ?_ | with_reducible refine pwp_ret ?_ | with_reducible refine pwp_exit ?_ | (with_reducible refine cond_t ?_ ?_; (focus (simp [*]; done))) | (with_reducible refine cond_f ?_ ?_; (focus (simp [*]; done))) | with_reducible refine then_n ?_ | with_reducible refine then_r ?_ | with_reducible refine then_e ?_ | with_reducible refine then_g ?_ | with_reducible refine inB_n ?_ | with_reducible refine inB_r ?_ | with_reducible refine inB_e ?_ | with_reducible refine inB_o rfl ?_ | with_reducible refine inB_g ?_ | with_reducible refine Leads.go (by assumption) ?_)
    refine pwp_loop (fun m st => ∃ (j : Nat) (t : T), m = bl - j ∧ j ≤ bl ∧ Bal k t ∧ st.env.n = 60 ∧ st.df = [] ∧ st.H.get H.nx = some (.cells [treeD t]) ∧ st.H.nx = H.nx + 1 ∧ st.env.get 1 = .slice g2 3 B ∧ st.env.get 5 = .ptr H.nx 0 ∧
      st.env.get 6 = .val (.func (.func 5) #[] #[]) ∧ st.env.get 7 = .clo (.func 6) [] [.ptr H.nx 0] ∧ st.env.get 9 = .val (.int .i64 (j : Nat))) bl ⟨0, t, rfl, by omega, hb, by simp [*], rfl, by simp [*], kN.out, by simp [*], by simp [*], by simp [*], by simp [*], by simp [*]⟩ ?_
    clear hb eT kN en e0 e1 e5 e6 e7 e8 hA
    rintro m ⟨E, H2, df⟩ ⟨j, t, rfl, hj, hb, en, edf, eT, eN, e1, e5, e6, e7, e8⟩
    simp only at en edf eT eN e1 e5 e6 e7 e8
    subst edf
    by_cases h : j < bl
    · have hki : (j : Int) < (bl : Int) := by omega
      have hw := wrapSucc j (by omega)
      obtain ⟨v, hv⟩ := kG.out j h
      have hv2 : ∀ h, B[j]'h = .val (.int .i64 v) := fun h => by have := hv; rw [List.getElem?_eq_getElem h] at this; exact Option.some.inj this
      have hlt2 : H.nx < H2.nx := by omega
      have kN := Hold.mk eN
      clear eN
      have hn := name_spec v
      repeat (first | with_reducible refine seq_k fun K hK => ?_ | (with_reducible refine region_k fun K hK => ?_; simp [*]) | (with_reducible refine region_drawT_k mixedO (by decide +kernel) fun K hK => ?_; simp [*]) | (with_reducible refine region_tame_a mixedO (by decide +kernel) fun K hK => ?_; simp [*, Low, isLoadB, isTameB, List.range_succ, List.range']) | with_reducible refine pwp_block ?_ | with_reducible refine pwp_skip ?_ | with_reducible refine pwp_ret ?_ | with_reducible refine pwp_exit ?_ | (with_reducible refine cond_t ?_ ?_; (focus (simp [*]; done))) | (with_reducible refine cond_f ?_ ?_; (focus (simp [*]; done))) | with_reducible refine then_n ?_ | with_reducible refine then_r ?_ | with_reducible refine then_e ?_ | with_reducible refine then_g ?_ | with_reducible refine inB_n ?_ | with_reducible refine inB_r ?_ | with_reducible refine inB_e ?_ | with_reducible refine inB_o rfl ?_ | with_reducible refine inB_g ?_ | with_reducible refine Leads.go (by assumption) ?_)
      refine PCalls.mono (hn _) ?_
      intro d3 H3 hd3
      obtain ⟨⟨s, hs, ps, zs⟩, hH⟩ := hd3
      rw [hs, hH]
      clear hs hH d3 H3 hn
      have hwi := Without_spec t s (bal_ok hb (by omega) _) ps (by omega) (by omega)
      have hb2 := bal_del hb (by omega) (ord1 s)
      generalize delT (ord1 s) t = t2 at *
      clear ps zs
      have hfl := fun H9 hi => flat_bal hb2 (by omega) H.nx H9 hi
      simp only [tr, strD] at hwi ⊢
      simp [*]
      refine PCalls.mono (hwi _) ?_
      intro d3 H3 hd3
      rw [hd3.1, hd3.2]
      clear hd3
      try simp [*]
      repeat (first | with_reducible refine seq_k fun K hK => ?_ | (with_reducible refine region_k fun K hK => ?_; simp [*]) | (with_reducible refine region_drawT_k mixedO (by decide +kernel) fun K hK => ?_; simp [*]) | (with_reducible refine region_tame_a mixedO (by decide +kernel) fun K hK => ?_; simp [*, Low, isLoadB, isTameB, List.range_succ, List.range']) | with_reducible refine pwp_block ?_ | with_reducible refine pwp_skip ?_ | with_reducible refine pwp_ret ?_ | with_reducible refine pwp_exit ?_ | (with_reducible refine cond_t ?_ ?_; (focus (simp [*]; done))) | (with_reducible refine cond_f ?_ ?_; (focus (simp [*]; done))) | with_reducible refine then_n ?_ | with_reducible refine then_r ?_ | with_reducible refine then_e ?_ | with_reducible refine then_g ?_ | with_reducible refine inB_n ?_ | with_reducible refine inB_r ?_ | with_reducible refine inB_e ?_ | with_reducible refine inB_o rfl ?_ | with_reducible refine inB_g ?_ | with_reducible refine Leads.go (by assumption) ?_)
      refine PCalls.mono (hfl _ ?_) ?_
      · simp [*]
      intro d3 H3 hd3
      rw [hd3.1, hd3.2]
      clear hd3
      try simp [*]
      repeat (first | with_reducible refine seq_k fun K hK => ?_ | (with_reducible refine region_k fun K hK => ?_; simp [*]) | (with_reducible refine region_drawT_k mixedO (by decide +kernel) fun K hK => ?_; simp [*]) | (with_reducible refine region_tame_a mixedO (by decide +kernel) fun K hK => ?_; simp [*, Low, isLoadB, isTameB, List.range_succ, List.range']) | with_reducible refine pwp_block ?_ | with_reducible refine pwp_skip ?_ | with_reducible refine pwp_ret ?_ | with_reducible refine pwp_exit ?_ | (with_reducible refine cond_t ?_ ?_; (focus (simp [*]; done))) | (with_reducible refine cond_f ?_ ?_; (focus (simp [*]; done))) | with_reducible refine then_n ?_ | with_reducible refine then_r ?_ | with_reducible refine then_e ?_ | with_reducible refine then_g ?_ | with_reducible refine inB_n ?_ | with_reducible refine inB_r ?_ | with_reducible refine inB_e ?_ | with_reducible refine inB_o rfl ?_ | with_reducible refine inB_g ?_ | with_reducible refine Leads.go (by assumption) ?_)
      refine ⟨bl - (j + 1), by omega, j + 1, t2, rfl, by omega, hb2, by simp [*], rfl, by simp [*], ?_, by simp [*], by simp [*], by simp [*], by simp [*], by simp [*]⟩
      have := kN.out
      simp [this]
    · have ej : j = bl := by omega
      subst ej
      clear kG h
      have kN := Hold.mk eN
      clear eN
      repeat (first | with_reducible refine seq_k fun K hK => ?_ | (with_reducible refine region_k fun K hK => ?_; simp [*]) | (with_reducible refine region_drawT_k mixedO (by decide +kernel) fun K hK => ?_; simp [*]) | (with_reducible refine region_tame_a mixedO (by decide +kernel) fun K hK => ?_; simp [*, Low, isLoadB, isTameB, List.range_succ, List.range']) | with_reducible refine pwp_block ?_ | with_reducible refine pwp_skip ?_ | with_reducible refine pwp_ret ?_ | with_reducible refine pwp_exit ?_ | (with_reducible refine cond_t ?_ ?_; (focus (simp [*]; done))) | (with_reducible refine cond_f ?_ ?_; (focus (simp [*]; done))) | with_reducible refine then_n ?_ | with_reducible refine then_r ?_ | with_reducible refine then_e ?_ | with_reducible refine then_g ?_ | with_reducible refine inB_n ?_ | with_reducible refine inB_r ?_ | with_reducible refine inB_e ?_ | with_reducible refine inB_o rfl ?_ | with_reducible refine inB_g ?_ | with_reducible refine Leads.go (by assumption) ?_)
      refine ⟨rfl, PCalls.mono (Of2_spec H2.nx _ oX oY (Heap.new_same _ _) (by simp) oX_plain (by decide) (by decide) oY_plain (by decide) (by decide) oX_nz) ?_⟩
      intro d3 H3 hd3
      rw [hd3]
      clear hd3
      refine PCalls.mono (Len_spec _ _) ?_
      intro d3 H4 hd3
      rw [hd3.1, hd3.2, two_sz]
      clear hd3
      simp [*]
      repeat (first | with_reducible refine seq_k fun K hK => ?_ | (with_reducible refine region_k fun K hK => ?_; simp [*]) | (with_reducible refine region_drawT_k mixedO (by decide +kernel) fun K hK => ?_; simp [*]) | (with_reducible refine region_tame_a mixedO (by decide +kernel) fun K hK => ?_; simp [*, Low, isLoadB, isTameB, List.range_succ, List.range']) | with_reducible refine pwp_block ?_ | with_reducible refine pwp_skip ?_ | with_reducible refine pwp_ret ?_ | with_reducible refine pwp_exit ?_ | (with_reducible refine cond_t ?_ ?_; (focus (simp [*]; done))) | (with_reducible refine cond_f ?_ ?_; (focus (simp [*]; done))) | with_reducible refine then_n ?_ | with_reducible refine then_r ?_ | with_reducible refine then_e ?_ | with_reducible refine then_g ?_ | with_reducible refine inB_n ?_ | with_reducible refine inB_r ?_ | with_reducible refine inB_e ?_ | with_reducible refine inB_o rfl ?_ | with_reducible refine inB_g ?_ | with_reducible refine Leads.go (by assumption) ?_)
      simp [*]
theorem TreeFlat_walk (g : Nat) (a : List Int) (g2 : Nat) (b : List Int) : PCalls Try.prog 3 [.slice g 3 (a.map fun s => .val (.int .i64 s)), .slice g2 3 (b.map fun s => .val (.int .i64 s))] (noHeap fun _ => none) fun d _ => d = .val (.bool true) :=
  law_walk g g2 a b _
end Go.Pv
