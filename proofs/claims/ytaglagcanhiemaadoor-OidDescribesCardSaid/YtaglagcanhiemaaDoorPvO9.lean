/- A part of the proof: functions of the program, walked, or what operations come to. -/
import Derived.Test.YtaglagcanhiemaaDoorPvO8
import Derived.Test.YtaglagcanhiemaaDoorPvN3
-- ZpvTameA ZpvDrawT
namespace Go.Pv
open Go.Proofs
attribute [-simp] eLen UInt8.ofNat_add

attribute [simp] natD
set_option maxHeartbeats 4000000 in
set_option maxRecDepth 100000 in
theorem rseven_spec (n : Nat) (hn : n < 100000000000000) (H : Heap) : PCalls Tryd.prog 28 [natD n] H fun d H' => Grow H' d 5 ((sev n).map byD) ∧ H.nx ≤ H'.nx ∧ H'.G = H.G ∧ ∀ j, j < H.nx → H'.get j = H.get j ∧ NotIt d j := by
  refine PCalls.of_pwp Tryd.call28 Tryd.func28 rfl (by simp [Tryd.ntmps28]) ?_
  rw [Tryd.ntmps28]
  have hc9 := cnt_le n (by omega)
  have hsl := sev_len n (by omega)
  have q1 : (n : Int).tdiv 128 = ((n / 128 : Nat) : Int) := tdivN n 128
  have q2 : (n : Int).tmod 128 = ((n % 128 : Nat) : Int) := tmodN n 128
  have q3 := wrapI ((n / 128 : Nat) : Int) (by omega) (by omega)
  have q4 := u8_lo n
  have hst : hiB (n / 128) ++ [UInt8.ofNat (n % 128)] = sev n := rfl
  have hst' := Hold.mk hst
  clear hst
  obtain ⟨m0, hm0⟩ : ∃ m, n % 128 = m := ⟨_, rfl⟩
  obtain ⟨q0, hq0⟩ : ∃ q, n / 128 = q := ⟨_, rfl⟩
  rw [hm0, hq0] at hst'
  rw [hm0] at q2 q4
  rw [hq0] at q1 q3
  simp only [natD]
  repeat (first | with_reducible refine seq_k fun K hK => ?_ | (with_reducible refine region_k fun K hK => ?_; simp [*]) | (with_reducible refine region_drawT_k mixedO (by decide +kernel) fun K hK => ?_; simp [*]) | (with_reducible refine region_tame_a mixedO (by decide +kernel) fun K hK => ?_; simp [*, Low, isLoadB, isTameB, List.range_succ, List.range']) | with_reducible refine pwp_block ?_ | with_reducible refine pwp_skip ?_ | with_reducible refine pwp_ret ?_ | with_reducible refine pwp_exit ?_ | (with_reducible refine cond_t ?_ ?_; (focus (simp [*]; done))) | (with_reducible refine cond_f ?_ ?_; (focus (simp [*]; done))) | with_reducible refine then_n ?_ | with_reducible refine then_r ?_ | with_reducible refine then_e ?_ | with_reducible refine then_g ?_ | with_reducible refine inB_n ?_ | with_reducible refine inB_r ?_ | with_reducible refine inB_e ?_ | with_reducible refine inB_o rfl ?_ | with_reducible refine inB_g ?_ | with_reducible refine Leads.go (by assumption) ?_)
  clear q1 q2 q3 q4
  refine pwp_for (cnt n) (fun k st => st.env.n = 22 ∧ st.df = [] ∧ st.env.get 0 = natD (n / 128 ^ (k + 1)) ∧ (∃ i b, H.nx ≤ i ∧ i < st.H.nx ∧ st.env.get 3 = .row i 5 0 b.length ∧ st.H.get i = some (.row 5 (b.map byD)) ∧ hiB (n / 128 ^ (k + 1)) ++ b = sev n ∧ b ≠ [] ∧ st.H.G = H.G ∧ ∀ j, j < H.nx → st.H.get j = H.get j)) ⟨by first | (simp; done) | (simp [*]; done), rfl, by first | (simp; done) | (simp [*]; done), ?_⟩ ?_ ?_
  · refine ⟨H.nx, [UInt8.ofNat m0], Nat.le_refl _, by simp, by simp, by simp, ?_, by simp, by simp, fun j hj => Heap.new_ne _ _ (by omega)⟩
    rw [Nat.zero_add, Nat.pow_one, hq0]; exact hst'.out
  · rintro k ⟨E, Hx, df⟩ hk ⟨en, edf, e0, eP⟩
    simp only at en edf e0
    subst edf
    have hki : (k : Int) < ((cnt n : Nat) : Int) := by omega
    have hkw := wrapSucc k (by omega)
    obtain ⟨i, b, hi0, hi, e3, hgi, hsv, hb, hG, hf⟩ := eP
    simp only at hi e3 hgi hG hf
    have hps := cnt_pos n k hk
    have hnx := div_pow_succ' n (k + 1)
    obtain ⟨c, hc⟩ : ∃ c, n / 128 ^ (k + 1) = c := ⟨_, rfl⟩
    rw [hc] at hps hnx e0 hsv
    have hcn : c ≤ n := by rw [← hc]; exact Nat.div_le_self _ _
    have hh := hiB_pos c (by omega)
    have hbl : b.length ≤ 9 := by
      have := congrArg List.length hsv
      rw [List.length_append] at this; omega
    have q1 : (c : Int).tdiv 128 = ((c / 128 : Nat) : Int) := tdivN c 128
    have q2 : (c : Int).tmod 128 = ((c % 128 : Nat) : Int) := tmodN c 128
    have q3 := wrapI ((c / 128 : Nat) : Int) (by omega) (by omega)
    have q4 := u8_hi c
    have hine : ¬ i = Hx.nx := by omega
    have kp := Hold.mk (And.intro hsv (And.intro hf (And.intro hG hh)))
    clear hsv hf hG hh
    simp only [natD] at e0
    generalize c % 128 = cm at *
    generalize c / 128 = cq at *
    repeat (first | with_reducible refine seq_k fun K hK => ?_ | (with_reducible refine region_k fun K hK => ?_; simp [*]) | (with_reducible refine region_drawT_k mixedO (by decide +kernel) fun K hK => ?_; simp [*]) | (with_reducible refine region_tame_a mixedO (by decide +kernel) fun K hK => ?_; simp [*, Low, isLoadB, isTameB, List.range_succ, List.range']) | with_reducible refine pwp_block ?_ | with_reducible refine pwp_skip ?_ | with_reducible refine pwp_ret ?_ | with_reducible refine pwp_exit ?_ | (with_reducible refine cond_t ?_ ?_; (focus (simp [*]; done))) | (with_reducible refine cond_f ?_ ?_; (focus (simp [*]; done))) | with_reducible refine then_n ?_ | with_reducible refine then_r ?_ | with_reducible refine then_e ?_ | with_reducible refine then_g ?_ | with_reducible refine inB_n ?_ | with_reducible refine inB_r ?_ | with_reducible refine inB_e ?_ | with_reducible refine inB_o rfl ?_ | with_reducible refine inB_g ?_ | with_reducible refine Leads.go (by assumption) ?_)
    have g1 := @Grow.one Hx 5 (byD (UInt8.ofNat (128 + cm)))
    refine oK_app g1 ?_ ?_ ?_
    · simp [*]
    · simp; omega
    intro d2 H2 hG2 hn2 hH2 hf2
    try simp [*]
    repeat (first | with_reducible refine seq_k fun K hK => ?_ | (with_reducible refine region_k fun K hK => ?_; simp [*]) | (with_reducible refine region_drawT_k mixedO (by decide +kernel) fun K hK => ?_; simp [*]) | (with_reducible refine region_tame_a mixedO (by decide +kernel) fun K hK => ?_; simp [*, Low, isLoadB, isTameB, List.range_succ, List.range']) | with_reducible refine pwp_block ?_ | with_reducible refine pwp_skip ?_ | with_reducible refine pwp_ret ?_ | with_reducible refine pwp_exit ?_ | (with_reducible refine cond_t ?_ ?_; (focus (simp [*]; done))) | (with_reducible refine cond_f ?_ ?_; (focus (simp [*]; done))) | with_reducible refine then_n ?_ | with_reducible refine then_r ?_ | with_reducible refine then_e ?_ | with_reducible refine then_g ?_ | with_reducible refine inB_n ?_ | with_reducible refine inB_r ?_ | with_reducible refine inB_e ?_ | with_reducible refine inB_o rfl ?_ | with_reducible refine inB_g ?_ | with_reducible refine Leads.go (by assumption) ?_)
    obtain ⟨hsv, hf, hG, hh⟩ := kp.out
    simp [*]
    have hG3 := hG2
    rcases hG2.row (by simp) with ⟨i2, hi2, h2, hg2⟩
    have fr : ∀ j, j < H.nx → H2.get j = H.get j := fun j hj => by
      rw [(hf2 j (by simp; omega) (fun e o m q => by cases q; omega)).1, Heap.new_ne _ _ (by omega)]
      exact hf j hj
    have hnot : ∀ j, j < H.nx → NotIt d2 j := fun j hj => (hf2 j (by simp; omega) (fun e o m q => by cases q; omega)).2
    have hle : H.nx ≤ i2 := Nat.le_of_not_lt fun q => hnot i2 q _ _ _ h2
    have htk : List.take b.length (List.map byD b) = List.map byD b := List.take_of_length_le (by simp)
    exact ⟨i2, hle, by simp at hn2; omega, UInt8.ofNat (128 + cm) :: b, by rw [h2]; simp, by rw [hg2]; simp [htk], by rw [← hsv, hh]; simp, by simp, fr⟩
  · rintro ⟨E, Hx, df⟩ ⟨en, edf, e0, eP⟩
    simp only at en edf e0
    subst edf
    obtain ⟨i, b, hi0, hi, e3, hgi, hsv, hb, hG, hf⟩ := eP
    simp only at hi e3 hgi hG hf
    rw [cnt_zero n] at e0 hsv
    rw [hiB_zero, List.nil_append] at hsv
    subst hsv
    have hg : Grow Hx (.row i 5 0 ((sev n).map byD).length) 5 ((sev n).map byD) := .of hi hgi (by simp [hb])
    rw [List.length_map] at hg
    have kp := Hold.mk (And.intro hf hg)
    clear hf hg
    repeat (first | with_reducible refine seq_k fun K hK => ?_ | (with_reducible refine region_k fun K hK => ?_; simp [*]) | (with_reducible refine region_drawT_k mixedO (by decide +kernel) fun K hK => ?_; simp [*]) | (with_reducible refine region_tame_a mixedO (by decide +kernel) fun K hK => ?_; simp [*, Low, isLoadB, isTameB, List.range_succ, List.range']) | with_reducible refine pwp_block ?_ | with_reducible refine pwp_skip ?_ | with_reducible refine pwp_ret ?_ | with_reducible refine pwp_exit ?_ | (with_reducible refine cond_t ?_ ?_; (focus (simp [*]; done))) | (with_reducible refine cond_f ?_ ?_; (focus (simp [*]; done))) | with_reducible refine then_n ?_ | with_reducible refine then_r ?_ | with_reducible refine then_e ?_ | with_reducible refine then_g ?_ | with_reducible refine inB_n ?_ | with_reducible refine inB_r ?_ | with_reducible refine inB_e ?_ | with_reducible refine inB_o rfl ?_ | with_reducible refine inB_g ?_ | with_reducible refine Leads.go (by assumption) ?_)
    simp [*]
    exact ⟨kp.out.2, by omega, fun j hj => ⟨kp.out.1 j hj, fun e o m q => by cases q; omega⟩⟩
/-! ### The bytes of an identifier -/
def putD (e : Nat) (o : Option By) : D := match o with
  | some b => .tup [.slice 0 5 (b.map byD), .val (.int .i64 0)]
  | none => .tup [.slice 1 0 [], .val (.int .i64 2)]
theorem pure_put (e : Nat) (o : Option By) : Pure (putD e o) := by
  rcases o with _ | b
  · refine .tup _ fun d hd => ?_
    simp only [List.mem_cons, List.mem_nil_iff, or_false] at hd
    rcases hd with rfl | rfl
    · exact .slice _ _ _ fun d h => by cases h
    · exact .val _
  · refine .tup _ fun d hd => ?_
    simp only [List.mem_cons, List.mem_nil_iff, or_false] at hd
    rcases hd with rfl | rfl
    · exact pure_vals (fun c : UInt8 => .int .u8 (c.toNat : Nat)) 0 _ b
    · exact .val _
/-- What valid numbers are like. -/
theorem arcs_small {l : By} {L : List Nat} (h : arcsM l = some L) : ∃ a b r, L = a :: b :: r ∧ r.length ≤ 14 ∧ a ≤ 2 ∧ b < 10000000000 ∧ ∀ n ∈ r, n < 10000000000 := by
  unfold arcsM at h
  split at h
  · rename_i hall
    split at h
    · rename_i hok
      cases h
      have hlt : ∀ n ∈ (splitB 46 l).map digVal, n < 10000000000 := fun n hn => by
        obtain ⟨p, hp, rfl⟩ := List.mem_map.1 hn
        exact (okP_read (List.all_eq_true.1 hall p hp)).2.2
      unfold arcOk at hok
      split at hok
      · rename_i a b r e
        rw [e] at hlt ⊢
        simp only [Bool.and_eq_true, decide_eq_true_eq] at hok
        exact ⟨a, b, r, rfl, hok.1.1, hok.1.2, hlt b (by simp), fun n hn => hlt n (by simp [hn])⟩
      · cases hok
    · cases h
  · cases h
/-- What the loop over the further numbers keeps. -/
def PutInv (acc : By) (r : List Nat) (k : Nat) (H : Heap) (d : D) : Prop := Grow H d 5 ((acc ++ (r.take k).flatMap sev).map byD)
theorem flat_len (r : List Nat) (h : ∀ n ∈ r, n < 10000000000) (k : Nat) : ((r.take k).flatMap sev).length ≤ 9 * k := by
  induction k with
  | zero => simp
  | succ k ih =>
    rcases hq : r[k]? with _ | n
    · rw [List.take_add_one, hq]; simpa using Nat.le_trans ih (by omega)
    · rw [List.take_add_one, hq]
      have h1 := sev_len n (by have := h n (List.mem_of_getElem? hq); omega)
      have h2 : (List.flatMap sev (List.take k r ++ [n])).length = ((r.take k).flatMap sev).length + (sev n).length := by simp
      show (List.flatMap sev (List.take k r ++ [n])).length ≤ _
      omega
theorem flat_succ (r : List Nat) (k n : Nat) (h : r[k]? = some n) : (r.take (k + 1)).flatMap sev = (r.take k).flatMap sev ++ sev n := by
  rw [List.take_add_one, h]; simp
set_option maxHeartbeats 4000000 in
set_option maxRecDepth 100000 in
theorem Put_local (l : By) (hl : l.length ≤ 100000) : PCalls Tryd.prog 8 [sD l] (noHeap noG) fun d H' => fz Tryd.prog 4 H' d = some (putD 0 (putM l)) := by
  refine PCalls.of_pwp Tryd.call8 Tryd.func8 rfl (by simp [Tryd.ntmps8]) ?_
  rw [Tryd.ntmps8]
  have hA := arcs_spec l hl
  unfold putM
  rcases hr : arcsM l with _ | L
  · rw [hr] at hA
    simp only [arcsD] at hA
    repeat (first | with_reducible refine seq_k fun K hK => ?_ | (with_reducible refine region_k fun K hK => ?_; simp [*]) | (with_reducible refine region_drawT_k mixedO (by decide +kernel) fun K hK => ?_; simp [*]) | (with_reducible refine region_tame_a mixedO (by decide +kernel) fun K hK => ?_; simp [*, Low, isLoadB, isTameB, List.range_succ, List.range']) | with_reducible refine pwp_block ?_ | with_reducible refine pwp_skip ?_ | with_reducible refine pwp_ret ?_ | with_reducible refine pwp_exit ?_ | (with_reducible refine cond_t ?_ ?_; (focus (simp [*]; done))) | (with_reducible refine cond_f ?_ ?_; (focus (simp [*]; done))) | with_reducible refine then_n ?_ | with_reducible refine then_r ?_ | with_reducible refine then_e ?_ | with_reducible refine then_g ?_ | with_reducible refine inB_n ?_ | with_reducible refine inB_r ?_ | with_reducible refine inB_e ?_ | with_reducible refine inB_o rfl ?_ | with_reducible refine inB_g ?_ | with_reducible refine Leads.go (by assumption) ?_)
    refine PCalls.mono (hA _) ?_
    intro d3 H3 hd3
    rw [hd3.1, hd3.2]
    clear hd3
    try simp [*]
    repeat (first | with_reducible refine seq_k fun K hK => ?_ | (with_reducible refine region_k fun K hK => ?_; simp [*]) | (with_reducible refine region_drawT_k mixedO (by decide +kernel) fun K hK => ?_; simp [*]) | (with_reducible refine region_tame_a mixedO (by decide +kernel) fun K hK => ?_; simp [*, Low, isLoadB, isTameB, List.range_succ, List.range']) | with_reducible refine pwp_block ?_ | with_reducible refine pwp_skip ?_ | with_reducible refine pwp_ret ?_ | with_reducible refine pwp_exit ?_ | (with_reducible refine cond_t ?_ ?_; (focus (simp [*]; done))) | (with_reducible refine cond_f ?_ ?_; (focus (simp [*]; done))) | with_reducible refine then_n ?_ | with_reducible refine then_r ?_ | with_reducible refine then_e ?_ | with_reducible refine then_g ?_ | with_reducible refine inB_n ?_ | with_reducible refine inB_r ?_ | with_reducible refine inB_e ?_ | with_reducible refine inB_o rfl ?_ | with_reducible refine inB_g ?_ | with_reducible refine Leads.go (by assumption) ?_)
    simp [*]
    rfl
  · obtain ⟨a, b, r, rfl, hr14, ha, hb, hrb⟩ := arcs_small hr
    rw [hr] at hA
    simp only [arcsD, List.map_cons] at hA
    have w1 := wrapI ((a : Int) * 40) (by omega) (by omega)
    have w2 : IntKind.i64.wrap ((a : Int) * 40 + (b : Int)) = ((a * 40 + b : Nat) : Int) := by rw [wrapI _ (by omega) (by omega)]; omega
    have l1 : (0 : Int) < (r.length : Int) + 1 + 1 := by omega
    have l2 : (1 : Int) < (r.length : Int) + 1 + 1 := by omega
    have l3 : (2 : Int) ≤ (r.length : Int) + 1 + 1 := by omega
    obtain ⟨n0, hn0⟩ : ∃ n0, a * 40 + b = n0 := ⟨_, rfl⟩
    rw [hn0] at w2
    have hs0 := sev_len n0 (by omega)
    have kp := Hold.mk (And.intro hrb hn0)
    clear hrb
    have h7 := seven_spec (.slice 1 0 []) [] n0 (by omega) (by simp) (noHeap noG) (by simpa using Grow.nil _ _)
    have hrm : (List.map natD r).take r.length = List.map natD r := List.take_of_length_le (by simp)
    clear hn0
    repeat (first | with_reducible refine seq_k fun K hK => ?_ | (with_reducible refine region_k fun K hK => ?_; simp [*]) | (with_reducible refine region_drawT_k mixedO (by decide +kernel) fun K hK => ?_; simp [*]) | (with_reducible refine region_tame_a mixedO (by decide +kernel) fun K hK => ?_; simp [*, Low, isLoadB, isTameB, List.range_succ, List.range']) | with_reducible refine pwp_block ?_ | with_reducible refine pwp_skip ?_ | with_reducible refine pwp_ret ?_ | with_reducible refine pwp_exit ?_ | (with_reducible refine cond_t ?_ ?_; (focus (simp [*]; done))) | (with_reducible refine cond_f ?_ ?_; (focus (simp [*]; done))) | with_reducible refine then_n ?_ | with_reducible refine then_r ?_ | with_reducible refine then_e ?_ | with_reducible refine then_g ?_ | with_reducible refine inB_n ?_ | with_reducible refine inB_r ?_ | with_reducible refine inB_e ?_ | with_reducible refine inB_o rfl ?_ | with_reducible refine inB_g ?_ | with_reducible refine Leads.go (by assumption) ?_)
    refine PCalls.mono (hA _) ?_
    intro d3 H3 hd3
    rw [hd3.1, hd3.2]
    clear hd3
    try simp [*]
    repeat (first | with_reducible refine seq_k fun K hK => ?_ | (with_reducible refine region_k fun K hK => ?_; simp [*]) | (with_reducible refine region_drawT_k mixedO (by decide +kernel) fun K hK => ?_; simp [*]) | (with_reducible refine region_tame_a mixedO (by decide +kernel) fun K hK => ?_; simp [*, Low, isLoadB, isTameB, List.range_succ, List.range']) | with_reducible refine pwp_block ?_ | with_reducible refine pwp_skip ?_ | with_reducible refine pwp_ret ?_ | with_reducible refine pwp_exit ?_ | (with_reducible refine cond_t ?_ ?_; (focus (simp [*]; done))) | (with_reducible refine cond_f ?_ ?_; (focus (simp [*]; done))) | with_reducible refine then_n ?_ | with_reducible refine then_r ?_ | with_reducible refine then_e ?_ | with_reducible refine then_g ?_ | with_reducible refine inB_n ?_ | with_reducible refine inB_r ?_ | with_reducible refine inB_e ?_ | with_reducible refine inB_o rfl ?_ | with_reducible refine inB_g ?_ | with_reducible refine Leads.go (by assumption) ?_)
    refine PCalls.mono h7 ?_
    rintro d H ⟨hG, hnx, hHG, hf⟩
    simp only [List.nil_append] at hG
    clear h7 hf w1 w2
    try simp [*]
    repeat (first | with_reducible refine seq_k fun K hK => ?_ | (with_reducible refine region_k fun K hK => ?_; simp [*]) | (with_reducible refine region_drawT_k mixedO (by decide +kernel) fun K hK => ?_; simp [*]) | (with_reducible refine region_tame_a mixedO (by decide +kernel) fun K hK => ?_; simp [*, Low, isLoadB, isTameB, List.range_succ, List.range']) | with_reducible refine pwp_block ?_ | with_reducible refine pwp_skip ?_ | with_reducible refine pwp_ret ?_ | with_reducible refine pwp_exit ?_ | (with_reducible refine cond_t ?_ ?_; (focus (simp [*]; done))) | (with_reducible refine cond_f ?_ ?_; (focus (simp [*]; done))) | with_reducible refine then_n ?_ | with_reducible refine then_r ?_ | with_reducible refine then_e ?_ | with_reducible refine then_g ?_ | with_reducible refine inB_n ?_ | with_reducible refine inB_r ?_ | with_reducible refine inB_e ?_ | with_reducible refine inB_o rfl ?_ | with_reducible refine inB_g ?_ | with_reducible refine Leads.go (by assumption) ?_)
    refine pwp_for (r.length) (fun k st => st.env.n = 37 ∧ st.df = [] ∧ st.env.get 26 = .slice 0 3 (r.map natD) ∧ st.env.get 27 = .val (.int .i64 (r.length : Nat)) ∧ st.env.get 28 = .val (.int .i64 (k : Nat)) ∧ (PutInv (sev n0) r k st.H (st.env.get 6))) ⟨by first | (simp; done) | (simp [*]; done), rfl, by first | (simp; done) | (simp [*]; done), by first | (simp; done) | (simp [*]; done), by first | (simp; done) | (simp [*]; done), ?_⟩ ?_ ?_
    · simp [*]
      unfold PutInv; simpa using hG
    · rintro k ⟨E, Hx, df⟩ hk ⟨en, edf, e26, e27, e28, eP⟩
      simp only at en edf e26 e27 e28
      subst edf
      have hki : (k : Int) < ((r.length : Nat) : Int) := by omega
      have hkw := wrapSucc k (by omega)
      obtain ⟨d6, e6⟩ : ∃ d, E.get 6 = d := ⟨_, rfl⟩
      simp only [e6, PutInv] at eP
      obtain ⟨n, hn⟩ : ∃ n, r[k]? = some n := ⟨_, List.getElem?_eq_getElem hk⟩
      have hn10 := kp.out.1 n (List.mem_of_getElem? hn)
      have hnm : (r.map natD)[k]? = some (natD n) := by rw [List.getElem?_map, hn]; rfl
      have hgd : (r.map natD).getD k .undef = natD n := by rw [List.getD, hnm]; rfl
      have hgl := get_of hnm
      have hgl2 := get_of hn
      have hml : (r.map natD).length = r.length := by simp
      have hfl := flat_len r kp.out.1 k
      have hfs := flat_succ r k n hn
      have h7 := seven_spec d6 (sev n0 ++ (r.take k).flatMap sev) n (by omega) (by rw [List.length_append]; omega) Hx eP
      simp only [natD] at hgd hgl
      clear eP hG
      repeat (first | with_reducible refine seq_k fun K hK => ?_ | (with_reducible refine region_k fun K hK => ?_; simp [*]) | (with_reducible refine region_drawT_k mixedO (by decide +kernel) fun K hK => ?_; simp [*]) | (with_reducible refine region_tame_a mixedO (by decide +kernel) fun K hK => ?_; simp [*, Low, isLoadB, isTameB, List.range_succ, List.range']) | with_reducible refine pwp_block ?_ | with_reducible refine pwp_skip ?_ | with_reducible refine pwp_ret ?_ | with_reducible refine pwp_exit ?_ | (with_reducible refine cond_t ?_ ?_; (focus (simp [*]; done))) | (with_reducible refine cond_f ?_ ?_; (focus (simp [*]; done))) | with_reducible refine then_n ?_ | with_reducible refine then_r ?_ | with_reducible refine then_e ?_ | with_reducible refine then_g ?_ | with_reducible refine inB_n ?_ | with_reducible refine inB_r ?_ | with_reducible refine inB_e ?_ | with_reducible refine inB_o rfl ?_ | with_reducible refine inB_g ?_ | with_reducible refine Leads.go (by assumption) ?_)
      refine PCalls.mono h7 ?_
      rintro d2 H2 ⟨hG2, hnx2, hHG2, hf2⟩
      clear h7 hf2
      try simp [*]
      repeat (first | with_reducible refine seq_k fun K hK => ?_ | (with_reducible refine region_k fun K hK => ?_; simp [*]) | (with_reducible refine region_drawT_k mixedO (by decide +kernel) fun K hK => ?_; simp [*]) | (with_reducible refine region_tame_a mixedO (by decide +kernel) fun K hK => ?_; simp [*, Low, isLoadB, isTameB, List.range_succ, List.range']) | with_reducible refine pwp_block ?_ | with_reducible refine pwp_skip ?_ | with_reducible refine pwp_ret ?_ | with_reducible refine pwp_exit ?_ | (with_reducible refine cond_t ?_ ?_; (focus (simp [*]; done))) | (with_reducible refine cond_f ?_ ?_; (focus (simp [*]; done))) | with_reducible refine then_n ?_ | with_reducible refine then_r ?_ | with_reducible refine then_e ?_ | with_reducible refine then_g ?_ | with_reducible refine inB_n ?_ | with_reducible refine inB_r ?_ | with_reducible refine inB_e ?_ | with_reducible refine inB_o rfl ?_ | with_reducible refine inB_g ?_ | with_reducible refine Leads.go (by assumption) ?_)
      simp [*]
      unfold PutInv
      rw [hfs]
      simpa using hG2
    · rintro ⟨E, Hx, df⟩ ⟨en, edf, e26, e27, e28, eP⟩
      simp only at en edf e26 e27 e28
      subst edf
      obtain ⟨d6, e6⟩ : ∃ d, E.get 6 = d := ⟨_, rfl⟩
      simp only [e6, PutInv, List.take_length] at eP
      have hfz := fz_two (v := .int .i64 0) (eP.fz (n := 2) (fz_vals (P := Tryd.prog) (fun c : UInt8 => .int .u8 (c.toNat : Nat)) 1 _ _))
      repeat (first | with_reducible refine seq_k fun K hK => ?_ | (with_reducible refine region_k fun K hK => ?_; simp [*]) | (with_reducible refine region_drawT_k mixedO (by decide +kernel) fun K hK => ?_; simp [*]) | (with_reducible refine region_tame_a mixedO (by decide +kernel) fun K hK => ?_; simp [*, Low, isLoadB, isTameB, List.range_succ, List.range']) | with_reducible refine pwp_block ?_ | with_reducible refine pwp_skip ?_ | with_reducible refine pwp_ret ?_ | with_reducible refine pwp_exit ?_ | (with_reducible refine cond_t ?_ ?_; (focus (simp [*]; done))) | (with_reducible refine cond_f ?_ ?_; (focus (simp [*]; done))) | with_reducible refine then_n ?_ | with_reducible refine then_r ?_ | with_reducible refine then_e ?_ | with_reducible refine then_g ?_ | with_reducible refine inB_n ?_ | with_reducible refine inB_r ?_ | with_reducible refine inB_e ?_ | with_reducible refine inB_o rfl ?_ | with_reducible refine inB_g ?_ | with_reducible refine Leads.go (by assumption) ?_)
      simp [*]
      have he : enc (a :: b :: r) = sev n0 ++ r.flatMap sev := by rw [enc, kp.out.2]
      rw [frD, if_neg (by simp [sev_ne]), putD, he, List.map_append]
      rfl
theorem Put_spec (l : By) (hl : l.length ≤ 100000) (H : Heap) : PCalls Tryd.prog 8 [sD l] H fun d H' => d = putD 0 (putM l) ∧ H' = H :=
  PCalls.liftG (PCalls.frozen (Put_local l hl)) (fun d hd => by
    simp only [List.mem_cons, List.mem_nil_iff, or_false] at hd
    subst hd; exact .val _) (pure_put _ _) H
end Go.Pv
