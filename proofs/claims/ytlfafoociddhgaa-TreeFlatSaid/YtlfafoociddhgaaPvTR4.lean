/- A part of the proof: functions of the program, walked, or what operations come to. -/
import Derived.Test.YtlfafoociddhgaaPvTR3
import Derived.Test.YtlfafoociddhgaaPvTameA
import Derived.Test.YtlfafoociddhgaaPvDrawT
namespace Go.Pv
open Go.Proofs
attribute [local simp] Try.underlying3 Try.underlying4 Try.underlying9 Try.underlying23 Try.underlying25 Try.underlying33 Try.underlying62 Heap.new_get Heap.put_get strD fillD entC
/-! ### lowered -/
/-- All levels lie between. -/
def inLv (lo hi : Int) : T → Prop
  | .nil => True
  | .node _ _ lv _ l r => (lo ≤ lv ∧ lv ≤ hi) ∧ inLv lo hi l ∧ inLv lo hi r
theorem inLv_made {lo hi : Int} {t : T} (ht : t ≠ .nil) {lv : Int} {l r : T} (h1 : lo ≤ lv ∧ lv ≤ hi) (h2 : inLv lo hi l) (h3 : inLv lo hi r) : inLv lo hi (made t lv l r) := by
  cases t with
  | nil => exact absurd rfl ht
  | node => exact ⟨h1, h2, h3⟩
theorem inLv_skew {lo hi : Int} {t : T} (h : inLv lo hi t) : inLv lo hi (skewT t) := by
  rcases t with _ | ⟨p, k, lv, sz, l, r⟩
  · exact h
  · rcases l with _ | ⟨p2, k2, lv2, sz2, l2, r2⟩
    · exact h
    · rw [skewT]
      split
      · exact ⟨h.2.1.1, h.2.1.2.1, h.1, h.2.1.2.2, h.2.2⟩
      · exact h
theorem skew_ne {t : T} (h : t ≠ .nil) : skewT t ≠ .nil := by
  rcases t with _ | ⟨p, k, lv, sz, l, r⟩
  · exact absurd rfl h
  · rcases l with _ | ⟨p2, k2, lv2, sz2, l2, r2⟩
    · exact h
    · rw [skewT]; split <;> simp [made]
theorem split_ne {t : T} (h : t ≠ .nil) : splitT t ≠ .nil := by
  rcases t with _ | ⟨p, k, lv, sz, l, r⟩
  · exact absurd rfl h
  · rcases r with _ | ⟨p2, k2, lv2, sz2, l2, r2⟩
    · exact h
    · rw [splitT]; split <;> simp [made]
theorem inLv_lv {lo hi : Int} {t : T} (h : inLv lo hi t) (h0 : 0 ≤ lo) (h1 : 0 ≤ hi) : 0 ≤ t.lv ∧ t.lv ≤ hi := by
  cases t with
  | nil => exact ⟨Int.le_refl _, h1⟩
  | node => have := h.1; simp; omega
theorem skew_spec' (t : T) {hi : Int} (h : inLv 1 hi t) (H : Heap) : PCalls Try.prog 34 [treeD t] H fun d H' => d = treeD (skewT t) ∧ H' = H :=
  skew_spec t (fun p k lv sz l r e _ => by subst e; have := h.1.1; omega) H
def T.left : T → T
  | .nil => .nil
  | .node _ _ _ _ l _ => l
def T.right : T → T
  | .nil => .nil
  | .node _ _ _ _ _ r => r
def mostT (l r : T) : Int := IntKind.i64.wrap ((if r.lv < l.lv then r.lv else l.lv) + 1)
def low1 : T → T
  | .nil => .nil
  | .node p k lv sz l r => if mostT l r < lv then made (.node p k lv sz l r) (mostT l r) l (if mostT l r < r.lv then made r (mostT l r) r.left r.right else r) else .node p k lv sz l r
def low2b (b : T) : T := match b with
  | .nil => .nil
  | .node p k lv sz l .nil => .node p k lv sz l .nil
  | .node p k lv sz l (.node p2 k2 lv2 sz2 l2 r2) => made (.node p k lv sz l (.node p2 k2 lv2 sz2 l2 r2)) lv l (skewT (.node p2 k2 lv2 sz2 l2 r2))
def low2 : T → T
  | .nil => .nil
  | .node p k lv sz l .nil => .node p k lv sz l .nil
  | .node p k lv sz l (.node p2 k2 lv2 sz2 l2 r2) => made (.node p k lv sz l (.node p2 k2 lv2 sz2 l2 r2)) lv l (low2b (skewT (.node p2 k2 lv2 sz2 l2 r2)))
def low3 : T → T
  | .nil => .nil
  | .node p k lv sz l .nil => .node p k lv sz l .nil
  | .node p k lv sz l (.node p2 k2 lv2 sz2 l2 r2) => made (.node p k lv sz l (.node p2 k2 lv2 sz2 l2 r2)) lv l (splitT (.node p2 k2 lv2 sz2 l2 r2))
def lowT (t : T) : T := low3 (splitT (low2 (skewT (low1 t))))
@[simp] theorem res39 : Try.f39.results.toList = [.tmp 2] := rfl
theorem inLv_low1 {hi : Int} (hh : hi ≤ 1099511627776) {p k : ByteArray} {lv sz : Int} {l r : T} (h1 : 1 ≤ lv ∧ lv ≤ hi) (hl : inLv 1 hi l) (hr : inLv 1 hi r) : inLv 1 hi (low1 (.node p k lv sz l r)) := by
  have a := inLv_lv hl (by omega) (by omega)
  have b := inLv_lv hr (by omega) (by omega)
  have hm : mostT l r = (if r.lv < l.lv then r.lv else l.lv) + 1 := by
    rw [mostT]; simp [IntKind.wrap, IntKind.bits, IntKind.signed]; split <;> omega
  rw [low1]
  split
  · rename_i hlt
    have hm1 : 1 ≤ mostT l r := by rw [hm]; split <;> omega
    refine ⟨⟨hm1, by omega⟩, hl, ?_⟩
    split
    · rename_i hlt2
      rcases r with _ | ⟨p2, k2, lv2, sz2, l2, r2⟩
      · exact trivial
      · exact ⟨⟨hm1, by omega⟩, hr.2.1, hr.2.2⟩
    · exact hr
  · exact ⟨h1, hl, hr⟩
set_option maxHeartbeats 8000000 in
set_option maxRecDepth 100000 in
theorem lowered_spec (p k : ByteArray) (lv sz : Int) (l r : T) {hi : Int} (hh : hi ≤ 1099511627776) (h1 : 1 ≤ lv ∧ lv ≤ hi) (hl : inLv 1 hi l) (hr : inLv 1 hi r) (H : Heap) :
    PCalls Try.prog 39 [treeD (.node p k lv sz l r)] H fun d H' => d = treeD (lowT (.node p k lv sz l r)) ∧ H' = H := by
  refine PCalls.of_pwp Try.call39 Try.func39 rfl (by simp [Try.ntmps39]) ?_
  rw [Try.ntmps39]
  have hv1 := levelOf_spec l
  have hv2 := levelOf_spec r
  have hin1 := inLv_low1 (sz := sz) (p := p) (k := k) hh h1 hl hr
  have hne1 : low1 (.node p k lv sz l r) ≠ .nil := by rw [low1]; split <;> simp [made]
  obtain ⟨LW, hLW⟩ : ∃ LW, lowT (.node p k lv sz l r) = LW := ⟨_, rfl⟩
  rw [hLW]
  rw [lowT] at hLW
  refine seq_k fun K1 h1 => ?_
  refine region_k fun K2 h2 => ?_
  simp
  refine h2.go ?_
  refine then_n ?_
  refine h1.go ?_
  clear h1 h2 K1 K2
  refine seq_k fun KA hA => ?_
  have key : ∀ (E : Env) (X : T), E.n = 117 → E.get 0 = treeD X → inLv 1 hi X → X ≠ .nil → low3 (splitT (low2 (skewT X))) = LW → KA ⟨E, H, []⟩ := by
    intro E X hn h0 hi1 hne hL
    refine hA.go ?_
    have hs1 := skew_spec' X hi1
    have hi2 := inLv_skew hi1
    have hne2 := skew_ne hne
    generalize skewT X = Y at hs1 hi2 hne2 hL
    clear hne hi1 hA hv1 hv2 hin1 hne1
    refine seq_k fun K1 h1 => ?_
    refine region_k fun K2 h2 => ?_
    simp [*]
    refine PCalls.mono (hs1 _) ?_
    intro d3 H3 hd3
    rw [hd3.1, hd3.2]
    clear hd3
    try simp [*]
    refine h2.go ?_
    refine then_n ?_
    refine h1.go ?_
    clear h1 h2 K1 K2 hs1
    refine seq_k fun KB hB => ?_
    have key2 : ∀ (E : Env) (X : T), E.n = 117 → E.get 0 = treeD X → X ≠ .nil → low3 (splitT X) = LW → KB ⟨E, H, []⟩ := by
      clear hL hi2 hne2 Y
      intro E X hn h0 hne hL
      refine hB.go ?_
      clear hB KB
      have hs1 := split_spec X
      have hne2 := split_ne hne
      generalize splitT X = Y at hs1 hne2 hL
      clear hne
      repeat (first | with_reducible refine seq_k fun K hK => ?_ | (with_reducible refine region_k fun K hK => ?_; simp [*]) | (with_reducible refine region_drawT_k mixedO (by decide +kernel) fun K hK => ?_; simp [*]) | (with_reducible refine region_tame_a mixedO (by decide +kernel) fun K hK => ?_; simp [*, Low, isLoadB, isTameB, List.range_succ, List.range']) | with_reducible refine pwp_block ?_ | with_reducible refine pwp_skip ?_ | with_reducible refine pwp_ret ?_ | with_reducible refine pwp_exit ?_ | (with_reducible refine cond_t ?_ ?_; (focus (simp [*]; done))) | (with_reducible refine cond_f ?_ ?_; (focus (simp [*]; done))) | with_reducible refine then_n ?_ | with_reducible refine then_r ?_ | with_reducible refine then_e ?_ | with_reducible refine then_g ?_ | with_reducible refine inB_n ?_ | with_reducible refine inB_r ?_ | with_reducible refine inB_e ?_ | with_reducible refine inB_o rfl ?_ | with_reducible refine inB_g ?_ | with_reducible refine Leads.go (by assumption) ?_)
      refine PCalls.mono (hs1 _) ?_
      intro d3 H3 hd3
      rw [hd3.1, hd3.2]
      clear hd3
      try simp [*]
      clear hs1
      rcases Y with _ | ⟨p, k, lv, sz, l, r⟩
      · exact absurd rfl hne2
      · rcases r with _ | ⟨p2, k2, lv2, sz2, l2, r2⟩
        · rw [low3] at hL
          subst hL
          simp only [treeD_node, treeD_nil, strD]
          repeat (first | with_reducible refine seq_k fun K hK => ?_ | (with_reducible refine region_k fun K hK => ?_; simp [*]) | (with_reducible refine region_drawT_k mixedO (by decide +kernel) fun K hK => ?_; simp [*]) | (with_reducible refine region_tame_a mixedO (by decide +kernel) fun K hK => ?_; simp [*, Low, isLoadB, isTameB, List.range_succ, List.range']) | with_reducible refine pwp_block ?_ | with_reducible refine pwp_skip ?_ | with_reducible refine pwp_ret ?_ | with_reducible refine pwp_exit ?_ | (with_reducible refine cond_t ?_ ?_; (focus (simp [*]; done))) | (with_reducible refine cond_f ?_ ?_; (focus (simp [*]; done))) | with_reducible refine then_n ?_ | with_reducible refine then_r ?_ | with_reducible refine then_e ?_ | with_reducible refine then_g ?_ | with_reducible refine inB_n ?_ | with_reducible refine inB_r ?_ | with_reducible refine inB_e ?_ | with_reducible refine inB_o rfl ?_ | with_reducible refine inB_g ?_ | with_reducible refine Leads.go (by assumption) ?_)
          simp [*]
        · have hq := split_spec (.node p2 k2 lv2 sz2 l2 r2)
          have hm := made_spec (.node p k lv sz l (.node p2 k2 lv2 sz2 l2 r2)) (by intro q; cases q) lv l (splitT (.node p2 k2 lv2 sz2 l2 r2))
          rw [low3] at hL
          rw [hL] at hm
          simp only [treeD_node, strD] at hm hq ⊢
          generalize splitT (.node p2 k2 lv2 sz2 l2 r2) = M1 at *
          clear hL
          repeat (first | with_reducible refine seq_k fun K hK => ?_ | (with_reducible refine region_k fun K hK => ?_; simp [*]) | (with_reducible refine region_drawT_k mixedO (by decide +kernel) fun K hK => ?_; simp [*]) | (with_reducible refine region_tame_a mixedO (by decide +kernel) fun K hK => ?_; simp [*, Low, isLoadB, isTameB, List.range_succ, List.range']) | with_reducible refine pwp_block ?_ | with_reducible refine pwp_skip ?_ | with_reducible refine pwp_ret ?_ | with_reducible refine pwp_exit ?_ | (with_reducible refine cond_t ?_ ?_; (focus (simp [*]; done))) | (with_reducible refine cond_f ?_ ?_; (focus (simp [*]; done))) | with_reducible refine then_n ?_ | with_reducible refine then_r ?_ | with_reducible refine then_e ?_ | with_reducible refine then_g ?_ | with_reducible refine inB_n ?_ | with_reducible refine inB_r ?_ | with_reducible refine inB_e ?_ | with_reducible refine inB_o rfl ?_ | with_reducible refine inB_g ?_ | with_reducible refine Leads.go (by assumption) ?_)
          refine PCalls.mono (hq _) ?_
          intro d3 H3 hd3
          rw [hd3.1, hd3.2]
          clear hd3
          try simp [*]
          refine PCalls.mono (hm _) ?_
          intro d3 H3 hd3
          rw [hd3.1, hd3.2]
          clear hd3
          try simp [*]
          repeat (first | with_reducible refine seq_k fun K hK => ?_ | (with_reducible refine region_k fun K hK => ?_; simp [*]) | (with_reducible refine region_drawT_k mixedO (by decide +kernel) fun K hK => ?_; simp [*]) | (with_reducible refine region_tame_a mixedO (by decide +kernel) fun K hK => ?_; simp [*, Low, isLoadB, isTameB, List.range_succ, List.range']) | with_reducible refine pwp_block ?_ | with_reducible refine pwp_skip ?_ | with_reducible refine pwp_ret ?_ | with_reducible refine pwp_exit ?_ | (with_reducible refine cond_t ?_ ?_; (focus (simp [*]; done))) | (with_reducible refine cond_f ?_ ?_; (focus (simp [*]; done))) | with_reducible refine then_n ?_ | with_reducible refine then_r ?_ | with_reducible refine then_e ?_ | with_reducible refine then_g ?_ | with_reducible refine inB_n ?_ | with_reducible refine inB_r ?_ | with_reducible refine inB_e ?_ | with_reducible refine inB_o rfl ?_ | with_reducible refine inB_g ?_ | with_reducible refine Leads.go (by assumption) ?_)
          simp [*]
    rcases Y with _ | ⟨p, k, lv, sz, l, r⟩
    · exact absurd rfl hne2
    rcases r with _ | ⟨p2, k2, lv2, sz2, l2, r2⟩
    · rw [low2] at hL
      clear hB
      simp only [treeD_node, treeD_nil, strD]
      repeat (first | with_reducible refine seq_k fun K hK => ?_ | (with_reducible refine region_k fun K hK => ?_; simp [*]) | (with_reducible refine region_drawT_k mixedO (by decide +kernel) fun K hK => ?_; simp [*]) | (with_reducible refine region_tame_a mixedO (by decide +kernel) fun K hK => ?_; simp [*, Low, isLoadB, isTameB, List.range_succ, List.range']) | with_reducible refine pwp_block ?_ | with_reducible refine pwp_skip ?_ | with_reducible refine pwp_ret ?_ | with_reducible refine pwp_exit ?_ | (with_reducible refine cond_t ?_ ?_; (focus (simp [*]; done))) | (with_reducible refine cond_f ?_ ?_; (focus (simp [*]; done))) | with_reducible refine then_n ?_ | with_reducible refine then_r ?_ | with_reducible refine then_e ?_ | with_reducible refine then_g ?_ | with_reducible refine inB_n ?_ | with_reducible refine inB_r ?_ | with_reducible refine inB_e ?_ | with_reducible refine inB_o rfl ?_ | with_reducible refine inB_g ?_ | with_reducible refine Leads.go (by assumption) ?_)
      exact key2 _ (.node p k lv sz l .nil) (by simp [*]) (by simp [*]) (by simp) hL
    · rw [low2] at hL
      have hs1 := skew_spec' (.node p2 k2 lv2 sz2 l2 r2) hi2.2.2
      have hi3 := inLv_skew hi2.2.2
      have hne3 := skew_ne (t := .node p2 k2 lv2 sz2 l2 r2) (by simp)
      have hY : ∃ YD, treeD (.node p k lv sz l (.node p2 k2 lv2 sz2 l2 r2)) = YD := ⟨_, rfl⟩
      have hm := fun b => made_spec (.node p k lv sz l (.node p2 k2 lv2 sz2 l2 r2)) (by simp) lv l b
      have hmn : ∀ b, made (.node p k lv sz l (.node p2 k2 lv2 sz2 l2 r2)) lv l b ≠ .nil := by simp [made]
      obtain ⟨MK, hMK⟩ : ∃ MK : T → T, MK = made (.node p k lv sz l (.node p2 k2 lv2 sz2 l2 r2)) lv l := ⟨_, rfl⟩
      rw [← hMK] at hL hm hmn
      clear hMK hi2 hne2 hB
      generalize skewT (.node p2 k2 lv2 sz2 l2 r2) = S at *
      simp only [treeD_node, strD] at hs1 hm ⊢
      rcases S with _ | ⟨p3, k3, lv3, sz3, l3, r3⟩
      · exact absurd rfl hne3
      rcases r3 with _ | ⟨p4, k4, lv4, sz4, l4, r4⟩
      · rw [low2b] at hL
        have hm := hm (.node p3 k3 lv3 sz3 l3 .nil)
        have hmn := hmn (.node p3 k3 lv3 sz3 l3 .nil)
        generalize MK (.node p3 k3 lv3 sz3 l3 .nil) = R at *
        simp only [treeD_node, treeD_nil, strD] at hs1 hm ⊢
        repeat (first | with_reducible refine seq_k fun K hK => ?_ | (with_reducible refine region_k fun K hK => ?_; simp [*]) | (with_reducible refine region_drawT_k mixedO (by decide +kernel) fun K hK => ?_; simp [*]) | (with_reducible refine region_tame_a mixedO (by decide +kernel) fun K hK => ?_; simp [*, Low, isLoadB, isTameB, List.range_succ, List.range']) | with_reducible refine pwp_block ?_ | with_reducible refine pwp_skip ?_ | with_reducible refine pwp_ret ?_ | with_reducible refine pwp_exit ?_ | (with_reducible refine cond_t ?_ ?_; (focus (simp [*]; done))) | (with_reducible refine cond_f ?_ ?_; (focus (simp [*]; done))) | with_reducible refine then_n ?_ | with_reducible refine then_r ?_ | with_reducible refine then_e ?_ | with_reducible refine then_g ?_ | with_reducible refine inB_n ?_ | with_reducible refine inB_r ?_ | with_reducible refine inB_e ?_ | with_reducible refine inB_o rfl ?_ | with_reducible refine inB_g ?_ | with_reducible refine Leads.go (by assumption) ?_)
        refine PCalls.mono (hs1 _) ?_
        intro d3 H3 hd3
        rw [hd3.1, hd3.2]
        clear hd3
        try simp [*]
        repeat (first | with_reducible refine seq_k fun K hK => ?_ | (with_reducible refine region_k fun K hK => ?_; simp [*]) | (with_reducible refine region_drawT_k mixedO (by decide +kernel) fun K hK => ?_; simp [*]) | (with_reducible refine region_tame_a mixedO (by decide +kernel) fun K hK => ?_; simp [*, Low, isLoadB, isTameB, List.range_succ, List.range']) | with_reducible refine pwp_block ?_ | with_reducible refine pwp_skip ?_ | with_reducible refine pwp_ret ?_ | with_reducible refine pwp_exit ?_ | (with_reducible refine cond_t ?_ ?_; (focus (simp [*]; done))) | (with_reducible refine cond_f ?_ ?_; (focus (simp [*]; done))) | with_reducible refine then_n ?_ | with_reducible refine then_r ?_ | with_reducible refine then_e ?_ | with_reducible refine then_g ?_ | with_reducible refine inB_n ?_ | with_reducible refine inB_r ?_ | with_reducible refine inB_e ?_ | with_reducible refine inB_o rfl ?_ | with_reducible refine inB_g ?_ | with_reducible refine Leads.go (by assumption) ?_)
        refine PCalls.mono (hm _) ?_
        intro d3 H3 hd3
        rw [hd3.1, hd3.2]
        clear hd3
        try simp [*]
        repeat (first | with_reducible refine seq_k fun K hK => ?_ | (with_reducible refine region_k fun K hK => ?_; simp [*]) | (with_reducible refine region_drawT_k mixedO (by decide +kernel) fun K hK => ?_; simp [*]) | (with_reducible refine region_tame_a mixedO (by decide +kernel) fun K hK => ?_; simp [*, Low, isLoadB, isTameB, List.range_succ, List.range']) | with_reducible refine pwp_block ?_ | with_reducible refine pwp_skip ?_ | with_reducible refine pwp_ret ?_ | with_reducible refine pwp_exit ?_ | (with_reducible refine cond_t ?_ ?_; (focus (simp [*]; done))) | (with_reducible refine cond_f ?_ ?_; (focus (simp [*]; done))) | with_reducible refine then_n ?_ | with_reducible refine then_r ?_ | with_reducible refine then_e ?_ | with_reducible refine then_g ?_ | with_reducible refine inB_n ?_ | with_reducible refine inB_r ?_ | with_reducible refine inB_e ?_ | with_reducible refine inB_o rfl ?_ | with_reducible refine inB_g ?_ | with_reducible refine Leads.go (by assumption) ?_)
        exact key2 _ R (by simp [*]) (by simp [*]) hmn hL
      · rw [low2b] at hL
        have hs2 := skew_spec' (.node p4 k4 lv4 sz4 l4 r4) hi3.2.2
        have hm2 := made_spec (.node p3 k3 lv3 sz3 l3 (.node p4 k4 lv4 sz4 l4 r4)) (by simp) lv3 l3 (skewT (.node p4 k4 lv4 sz4 l4 r4))
        generalize skewT (.node p4 k4 lv4 sz4 l4 r4) = Z at *
        generalize made (.node p3 k3 lv3 sz3 l3 (.node p4 k4 lv4 sz4 l4 r4)) lv3 l3 Z = S2 at *
        have hm := hm S2
        have hmn := hmn S2
        generalize MK S2 = R at *
        simp only [treeD_node, treeD_nil, strD] at hs1 hs2 hm2 hm ⊢
        repeat (first | with_reducible refine seq_k fun K hK => ?_ | (with_reducible refine region_k fun K hK => ?_; simp [*]) | (with_reducible refine region_drawT_k mixedO (by decide +kernel) fun K hK => ?_; simp [*]) | (with_reducible refine region_tame_a mixedO (by decide +kernel) fun K hK => ?_; simp [*, Low, isLoadB, isTameB, List.range_succ, List.range']) | with_reducible refine pwp_block ?_ | with_reducible refine pwp_skip ?_ | with_reducible refine pwp_ret ?_ | with_reducible refine pwp_exit ?_ | (with_reducible refine cond_t ?_ ?_; (focus (simp [*]; done))) | (with_reducible refine cond_f ?_ ?_; (focus (simp [*]; done))) | with_reducible refine then_n ?_ | with_reducible refine then_r ?_ | with_reducible refine then_e ?_ | with_reducible refine then_g ?_ | with_reducible refine inB_n ?_ | with_reducible refine inB_r ?_ | with_reducible refine inB_e ?_ | with_reducible refine inB_o rfl ?_ | with_reducible refine inB_g ?_ | with_reducible refine Leads.go (by assumption) ?_)
        refine PCalls.mono (hs1 _) ?_
        intro d3 H3 hd3
        rw [hd3.1, hd3.2]
        clear hd3
        try simp [*]
        repeat (first | with_reducible refine seq_k fun K hK => ?_ | (with_reducible refine region_k fun K hK => ?_; simp [*]) | (with_reducible refine region_drawT_k mixedO (by decide +kernel) fun K hK => ?_; simp [*]) | (with_reducible refine region_tame_a mixedO (by decide +kernel) fun K hK => ?_; simp [*, Low, isLoadB, isTameB, List.range_succ, List.range']) | with_reducible refine pwp_block ?_ | with_reducible refine pwp_skip ?_ | with_reducible refine pwp_ret ?_ | with_reducible refine pwp_exit ?_ | (with_reducible refine cond_t ?_ ?_; (focus (simp [*]; done))) | (with_reducible refine cond_f ?_ ?_; (focus (simp [*]; done))) | with_reducible refine then_n ?_ | with_reducible refine then_r ?_ | with_reducible refine then_e ?_ | with_reducible refine then_g ?_ | with_reducible refine inB_n ?_ | with_reducible refine inB_r ?_ | with_reducible refine inB_e ?_ | with_reducible refine inB_o rfl ?_ | with_reducible refine inB_g ?_ | with_reducible refine Leads.go (by assumption) ?_)
        refine PCalls.mono (hs2 _) ?_
        intro d3 H3 hd3
        rw [hd3.1, hd3.2]
        clear hd3
        try simp [*]
        refine PCalls.mono (hm2 _) ?_
        intro d3 H3 hd3
        rw [hd3.1, hd3.2]
        clear hd3
        try simp [*]
        repeat (first | with_reducible refine seq_k fun K hK => ?_ | (with_reducible refine region_k fun K hK => ?_; simp [*]) | (with_reducible refine region_drawT_k mixedO (by decide +kernel) fun K hK => ?_; simp [*]) | (with_reducible refine region_tame_a mixedO (by decide +kernel) fun K hK => ?_; simp [*, Low, isLoadB, isTameB, List.range_succ, List.range']) | with_reducible refine pwp_block ?_ | with_reducible refine pwp_skip ?_ | with_reducible refine pwp_ret ?_ | with_reducible refine pwp_exit ?_ | (with_reducible refine cond_t ?_ ?_; (focus (simp [*]; done))) | (with_reducible refine cond_f ?_ ?_; (focus (simp [*]; done))) | with_reducible refine then_n ?_ | with_reducible refine then_r ?_ | with_reducible refine then_e ?_ | with_reducible refine then_g ?_ | with_reducible refine inB_n ?_ | with_reducible refine inB_r ?_ | with_reducible refine inB_e ?_ | with_reducible refine inB_o rfl ?_ | with_reducible refine inB_g ?_ | with_reducible refine Leads.go (by assumption) ?_)
        refine PCalls.mono (hm _) ?_
        intro d3 H3 hd3
        rw [hd3.1, hd3.2]
        clear hd3
        try simp [*]
        repeat (first | with_reducible refine seq_k fun K hK => ?_ | (with_reducible refine region_k fun K hK => ?_; simp [*]) | (with_reducible refine region_drawT_k mixedO (by decide +kernel) fun K hK => ?_; simp [*]) | (with_reducible refine region_tame_a mixedO (by decide +kernel) fun K hK => ?_; simp [*, Low, isLoadB, isTameB, List.range_succ, List.range']) | with_reducible refine pwp_block ?_ | with_reducible refine pwp_skip ?_ | with_reducible refine pwp_ret ?_ | with_reducible refine pwp_exit ?_ | (with_reducible refine cond_t ?_ ?_; (focus (simp [*]; done))) | (with_reducible refine cond_f ?_ ?_; (focus (simp [*]; done))) | with_reducible refine then_n ?_ | with_reducible refine then_r ?_ | with_reducible refine then_e ?_ | with_reducible refine then_g ?_ | with_reducible refine inB_n ?_ | with_reducible refine inB_r ?_ | with_reducible refine inB_e ?_ | with_reducible refine inB_o rfl ?_ | with_reducible refine inB_g ?_ | with_reducible refine Leads.go (by assumption) ?_)
        exact key2 _ R (by simp [*]) (by simp [*]) hmn hL
  obtain ⟨M, hM⟩ : ∃ M, M = mostT l r := ⟨_, rfl⟩
  have hMw : IntKind.i64.wrap ((if r.lv < l.lv then r.lv else l.lv) + 1) = M := hM.symm
  have hM1 : 1 ≤ M := by
    have a := inLv_lv hl (by omega) (by omega)
    have b := inLv_lv hr (by omega) (by omega)
    rw [← hMw]
    simp [IntKind.wrap, IntKind.bits, IntKind.signed]; split <;> omega
  rw [low1, ← hM] at hin1 hne1 hLW
  clear hA hM
  by_cases c1 : M < lv
  · rw [if_pos c1] at hin1 hne1 hLW
    by_cases c2 : M < r.lv
    · rcases r with _ | ⟨p2, k2, lv2, sz2, l2, r2⟩
      · simp at c2; omega
      · rw [if_pos c2] at hin1 hne1 hLW
        have hm1 := made_spec (.node p2 k2 lv2 sz2 l2 r2) (by simp) M l2 r2
        have hm := made_spec (.node p k lv sz l (.node p2 k2 lv2 sz2 l2 r2)) (by simp) M l (made (.node p2 k2 lv2 sz2 l2 r2) M l2 r2)
        simp only [T.left, T.right] at hin1 hne1 hLW
        generalize made (.node p2 k2 lv2 sz2 l2 r2) M l2 r2 = R1 at *
        generalize made (.node p k lv sz l (.node p2 k2 lv2 sz2 l2 r2)) M l R1 = R2 at *
        clear hM1 hl hr
        have hMw : IntKind.i64.wrap ((if lv2 < l.lv then lv2 else l.lv) + 1) = M := hMw
        simp only [treeD_node, strD, T.lv_node] at hm1 hm hv2 c2 ⊢
        repeat (first | with_reducible refine seq_k fun K hK => ?_ | (with_reducible refine region_k fun K hK => ?_; simp [*]) | (with_reducible refine region_drawT_k mixedO (by decide +kernel) fun K hK => ?_; simp [*]) | (with_reducible refine region_tame_a mixedO (by decide +kernel) fun K hK => ?_; simp [*, Low, isLoadB, isTameB, List.range_succ, List.range']) | with_reducible refine pwp_block ?_ | with_reducible refine pwp_skip ?_ | with_reducible refine pwp_ret ?_ | with_reducible refine pwp_exit ?_ | (with_reducible refine cond_t ?_ ?_; (focus (simp [*]; done))) | (with_reducible refine cond_f ?_ ?_; (focus (simp [*]; done))) | with_reducible refine then_n ?_ | with_reducible refine then_r ?_ | with_reducible refine then_e ?_ | with_reducible refine then_g ?_ | with_reducible refine inB_n ?_ | with_reducible refine inB_r ?_ | with_reducible refine inB_e ?_ | with_reducible refine inB_o rfl ?_ | with_reducible refine inB_g ?_ | with_reducible refine Leads.go (by assumption) ?_)
        refine PCalls.mono (hv1 _) ?_
        intro d3 H3 hd3
        rw [hd3.1, hd3.2]
        clear hd3
        try simp [*]
        refine PCalls.mono (hv2 _) ?_
        intro d3 H3 hd3
        rw [hd3.1, hd3.2]
        clear hd3
        try simp [*]
        repeat (first | with_reducible refine seq_k fun K hK => ?_ | (with_reducible refine region_k fun K hK => ?_; simp [*]) | (with_reducible refine region_drawT_k mixedO (by decide +kernel) fun K hK => ?_; simp [*]) | (with_reducible refine region_tame_a mixedO (by decide +kernel) fun K hK => ?_; simp [*, Low, isLoadB, isTameB, List.range_succ, List.range']) | with_reducible refine pwp_block ?_ | with_reducible refine pwp_skip ?_ | with_reducible refine pwp_ret ?_ | with_reducible refine pwp_exit ?_ | (with_reducible refine cond_t ?_ ?_; (focus (simp [*]; done))) | (with_reducible refine cond_f ?_ ?_; (focus (simp [*]; done))) | with_reducible refine then_n ?_ | with_reducible refine then_r ?_ | with_reducible refine then_e ?_ | with_reducible refine then_g ?_ | with_reducible refine inB_n ?_ | with_reducible refine inB_r ?_ | with_reducible refine inB_e ?_ | with_reducible refine inB_o rfl ?_ | with_reducible refine inB_g ?_ | with_reducible refine Leads.go (by assumption) ?_)
        refine PCalls.mono (hv2 _) ?_
        intro d3 H3 hd3
        rw [hd3.1, hd3.2]
        clear hd3
        try simp [*]
        repeat (first | with_reducible refine seq_k fun K hK => ?_ | (with_reducible refine region_k fun K hK => ?_; simp [*]) | (with_reducible refine region_drawT_k mixedO (by decide +kernel) fun K hK => ?_; simp [*]) | (with_reducible refine region_tame_a mixedO (by decide +kernel) fun K hK => ?_; simp [*, Low, isLoadB, isTameB, List.range_succ, List.range']) | with_reducible refine pwp_block ?_ | with_reducible refine pwp_skip ?_ | with_reducible refine pwp_ret ?_ | with_reducible refine pwp_exit ?_ | (with_reducible refine cond_t ?_ ?_; (focus (simp [*]; done))) | (with_reducible refine cond_f ?_ ?_; (focus (simp [*]; done))) | with_reducible refine then_n ?_ | with_reducible refine then_r ?_ | with_reducible refine then_e ?_ | with_reducible refine then_g ?_ | with_reducible refine inB_n ?_ | with_reducible refine inB_r ?_ | with_reducible refine inB_e ?_ | with_reducible refine inB_o rfl ?_ | with_reducible refine inB_g ?_ | with_reducible refine Leads.go (by assumption) ?_)
        refine PCalls.mono (hm1 _) ?_
        intro d3 H3 hd3
        rw [hd3.1, hd3.2]
        clear hd3
        try simp [*]
        repeat (first | with_reducible refine seq_k fun K hK => ?_ | (with_reducible refine region_k fun K hK => ?_; simp [*]) | (with_reducible refine region_drawT_k mixedO (by decide +kernel) fun K hK => ?_; simp [*]) | (with_reducible refine region_tame_a mixedO (by decide +kernel) fun K hK => ?_; simp [*, Low, isLoadB, isTameB, List.range_succ, List.range']) | with_reducible refine pwp_block ?_ | with_reducible refine pwp_skip ?_ | with_reducible refine pwp_ret ?_ | with_reducible refine pwp_exit ?_ | (with_reducible refine cond_t ?_ ?_; (focus (simp [*]; done))) | (with_reducible refine cond_f ?_ ?_; (focus (simp [*]; done))) | with_reducible refine then_n ?_ | with_reducible refine then_r ?_ | with_reducible refine then_e ?_ | with_reducible refine then_g ?_ | with_reducible refine inB_n ?_ | with_reducible refine inB_r ?_ | with_reducible refine inB_e ?_ | with_reducible refine inB_o rfl ?_ | with_reducible refine inB_g ?_ | with_reducible refine Leads.go (by assumption) ?_)
        refine PCalls.mono (hm _) ?_
        intro d3 H3 hd3
        rw [hd3.1, hd3.2]
        clear hd3
        try simp [*]
        repeat (first | with_reducible refine seq_k fun K hK => ?_ | (with_reducible refine region_k fun K hK => ?_; simp [*]) | (with_reducible refine region_drawT_k mixedO (by decide +kernel) fun K hK => ?_; simp [*]) | (with_reducible refine region_tame_a mixedO (by decide +kernel) fun K hK => ?_; simp [*, Low, isLoadB, isTameB, List.range_succ, List.range']) | with_reducible refine pwp_block ?_ | with_reducible refine pwp_skip ?_ | with_reducible refine pwp_ret ?_ | with_reducible refine pwp_exit ?_ | (with_reducible refine cond_t ?_ ?_; (focus (simp [*]; done))) | (with_reducible refine cond_f ?_ ?_; (focus (simp [*]; done))) | with_reducible refine then_n ?_ | with_reducible refine then_r ?_ | with_reducible refine then_e ?_ | with_reducible refine then_g ?_ | with_reducible refine inB_n ?_ | with_reducible refine inB_r ?_ | with_reducible refine inB_e ?_ | with_reducible refine inB_o rfl ?_ | with_reducible refine inB_g ?_ | with_reducible refine Leads.go (by assumption) ?_)
        exact key _ R2 (by simp [*]) (by simp [*]) hin1 hne1 hLW
    · rw [if_neg c2] at hin1 hne1 hLW
      have hm := made_spec (.node p k lv sz l r) (by simp) M l r
      generalize made (.node p k lv sz l r) M l r = R2 at *
      clear hM1 hl hr
      simp only [treeD_node, strD] at hm ⊢
      repeat (first | with_reducible refine seq_k fun K hK => ?_ | (with_reducible refine region_k fun K hK => ?_; simp [*]) | (with_reducible refine region_drawT_k mixedO (by decide +kernel) fun K hK => ?_; simp [*]) | (with_reducible refine region_tame_a mixedO (by decide +kernel) fun K hK => ?_; simp [*, Low, isLoadB, isTameB, List.range_succ, List.range']) | with_reducible refine pwp_block ?_ | with_reducible refine pwp_skip ?_ | with_reducible refine pwp_ret ?_ | with_reducible refine pwp_exit ?_ | (with_reducible refine cond_t ?_ ?_; (focus (simp [*]; done))) | (with_reducible refine cond_f ?_ ?_; (focus (simp [*]; done))) | with_reducible refine then_n ?_ | with_reducible refine then_r ?_ | with_reducible refine then_e ?_ | with_reducible refine then_g ?_ | with_reducible refine inB_n ?_ | with_reducible refine inB_r ?_ | with_reducible refine inB_e ?_ | with_reducible refine inB_o rfl ?_ | with_reducible refine inB_g ?_ | with_reducible refine Leads.go (by assumption) ?_)
      refine PCalls.mono (hv1 _) ?_
      intro d3 H3 hd3
      rw [hd3.1, hd3.2]
      clear hd3
      try simp [*]
      refine PCalls.mono (hv2 _) ?_
      intro d3 H3 hd3
      rw [hd3.1, hd3.2]
      clear hd3
      try simp [*]
      repeat (first | with_reducible refine seq_k fun K hK => ?_ | (with_reducible refine region_k fun K hK => ?_; simp [*]) | (with_reducible refine region_drawT_k mixedO (by decide +kernel) fun K hK => ?_; simp [*]) | (with_reducible refine region_tame_a mixedO (by decide +kernel) fun K hK => ?_; simp [*, Low, isLoadB, isTameB, List.range_succ, List.range']) | with_reducible refine pwp_block ?_ | with_reducible refine pwp_skip ?_ | with_reducible refine pwp_ret ?_ | with_reducible refine pwp_exit ?_ | (with_reducible refine cond_t ?_ ?_; (focus (simp [*]; done))) | (with_reducible refine cond_f ?_ ?_; (focus (simp [*]; done))) | with_reducible refine then_n ?_ | with_reducible refine then_r ?_ | with_reducible refine then_e ?_ | with_reducible refine then_g ?_ | with_reducible refine inB_n ?_ | with_reducible refine inB_r ?_ | with_reducible refine inB_e ?_ | with_reducible refine inB_o rfl ?_ | with_reducible refine inB_g ?_ | with_reducible refine Leads.go (by assumption) ?_)
      refine PCalls.mono (hv2 _) ?_
      intro d3 H3 hd3
      rw [hd3.1, hd3.2]
      clear hd3
      try simp [*]
      repeat (first | with_reducible refine seq_k fun K hK => ?_ | (with_reducible refine region_k fun K hK => ?_; simp [*]) | (with_reducible refine region_drawT_k mixedO (by decide +kernel) fun K hK => ?_; simp [*]) | (with_reducible refine region_tame_a mixedO (by decide +kernel) fun K hK => ?_; simp [*, Low, isLoadB, isTameB, List.range_succ, List.range']) | with_reducible refine pwp_block ?_ | with_reducible refine pwp_skip ?_ | with_reducible refine pwp_ret ?_ | with_reducible refine pwp_exit ?_ | (with_reducible refine cond_t ?_ ?_; (focus (simp [*]; done))) | (with_reducible refine cond_f ?_ ?_; (focus (simp [*]; done))) | with_reducible refine then_n ?_ | with_reducible refine then_r ?_ | with_reducible refine then_e ?_ | with_reducible refine then_g ?_ | with_reducible refine inB_n ?_ | with_reducible refine inB_r ?_ | with_reducible refine inB_e ?_ | with_reducible refine inB_o rfl ?_ | with_reducible refine inB_g ?_ | with_reducible refine Leads.go (by assumption) ?_)
      refine PCalls.mono (hm _) ?_
      intro d3 H3 hd3
      rw [hd3.1, hd3.2]
      clear hd3
      try simp [*]
      repeat (first | with_reducible refine seq_k fun K hK => ?_ | (with_reducible refine region_k fun K hK => ?_; simp [*]) | (with_reducible refine region_drawT_k mixedO (by decide +kernel) fun K hK => ?_; simp [*]) | (with_reducible refine region_tame_a mixedO (by decide +kernel) fun K hK => ?_; simp [*, Low, isLoadB, isTameB, List.range_succ, List.range']) | with_reducible refine pwp_block ?_ | with_reducible refine pwp_skip ?_ | with_reducible refine pwp_ret ?_ | with_reducible refine pwp_exit ?_ | (with_reducible refine cond_t ?_ ?_; (focus (simp [*]; done))) | (with_reducible refine cond_f ?_ ?_; (focus (simp [*]; done))) | with_reducible refine then_n ?_ | with_reducible refine then_r ?_ | with_reducible refine then_e ?_ | with_reducible refine then_g ?_ | with_reducible refine inB_n ?_ | with_reducible refine inB_r ?_ | with_reducible refine inB_e ?_ | with_reducible refine inB_o rfl ?_ | with_reducible refine inB_g ?_ | with_reducible refine Leads.go (by assumption) ?_)
      exact key _ R2 (by simp [*]) (by simp [*]) hin1 hne1 hLW
  · rw [if_neg c1] at hin1 hne1 hLW
    clear hM1 hl hr
    have ek := fun E hn h0 => key E (.node p k lv sz l r) hn h0 hin1 hne1 hLW
    clear key
    simp only [treeD_node, strD] at ek ⊢
    repeat (first | with_reducible refine seq_k fun K hK => ?_ | (with_reducible refine region_k fun K hK => ?_; simp [*]) | (with_reducible refine region_drawT_k mixedO (by decide +kernel) fun K hK => ?_; simp [*]) | (with_reducible refine region_tame_a mixedO (by decide +kernel) fun K hK => ?_; simp [*, Low, isLoadB, isTameB, List.range_succ, List.range']) | with_reducible refine pwp_block ?_ | with_reducible refine pwp_skip ?_ | with_reducible refine pwp_ret ?_ | with_reducible refine pwp_exit ?_ | (with_reducible refine cond_t ?_ ?_; (focus (simp [*]; done))) | (with_reducible refine cond_f ?_ ?_; (focus (simp [*]; done))) | with_reducible refine then_n ?_ | with_reducible refine then_r ?_ | with_reducible refine then_e ?_ | with_reducible refine then_g ?_ | with_reducible refine inB_n ?_ | with_reducible refine inB_r ?_ | with_reducible refine inB_e ?_ | with_reducible refine inB_o rfl ?_ | with_reducible refine inB_g ?_ | with_reducible refine Leads.go (by assumption) ?_)
    refine PCalls.mono (hv1 _) ?_
    intro d3 H3 hd3
    rw [hd3.1, hd3.2]
    clear hd3
    try simp [*]
    refine PCalls.mono (hv2 _) ?_
    intro d3 H3 hd3
    rw [hd3.1, hd3.2]
    clear hd3
    try simp [*]
    repeat (first | with_reducible refine seq_k fun K hK => ?_ | (with_reducible refine region_k fun K hK => ?_; simp [*]) | (with_reducible refine region_drawT_k mixedO (by decide +kernel) fun K hK => ?_; simp [*]) | (with_reducible refine region_tame_a mixedO (by decide +kernel) fun K hK => ?_; simp [*, Low, isLoadB, isTameB, List.range_succ, List.range']) | with_reducible refine pwp_block ?_ | with_reducible refine pwp_skip ?_ | with_reducible refine pwp_ret ?_ | with_reducible refine pwp_exit ?_ | (with_reducible refine cond_t ?_ ?_; (focus (simp [*]; done))) | (with_reducible refine cond_f ?_ ?_; (focus (simp [*]; done))) | with_reducible refine then_n ?_ | with_reducible refine then_r ?_ | with_reducible refine then_e ?_ | with_reducible refine then_g ?_ | with_reducible refine inB_n ?_ | with_reducible refine inB_r ?_ | with_reducible refine inB_e ?_ | with_reducible refine inB_o rfl ?_ | with_reducible refine inB_g ?_ | with_reducible refine Leads.go (by assumption) ?_)
    exact ek _ (by simp [*]) (by simp [*])
end Go.Pv
