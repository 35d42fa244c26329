/- A part of the proof: functions of the program, walked, or what operations come to. -/
import Derived.Test.YtnmpinbfddjhmaaGreatPvX1
import Derived.Test.YtnmpinbfddjhmaaGreatPvArgs5
import Derived.Test.YtnmpinbfddjhmaaGreatPvAside
-- ZpvTameA ZpvDrawT
namespace Go.Pv
open Go.Proofs
attribute [-simp] eLen UInt8.ofNat_add



/-! ### Few parts; parts as arguments -/
attribute [local simp] optK
def Few (f la : By) (bs : List By) : Prop := f.length < 700 ∧ la.length < 700 ∧ bs.length < 700 ∧ ∀ b ∈ bs, b.length < 700
theorem minL (a : Nat) : (if (700 : Int) < (a : Int) then (700 : Int) else (a : Int)) = ((min a 700 : Nat) : Int) := by split <;> omega
set_option maxHeartbeats 4000000 in
set_option maxRecDepth 100000 in
theorem few_local (f la : By) (g : Nat) (bs : List By) (hf : f.length ≤ 140737488351232) (hla : la.length ≤ 140737488351232) (hbs : ∀ b ∈ bs, b.length ≤ 140737488351232) (hbl : bs.length ≤ 140737488351232) :
    PCalls Tryz.prog 6 [partsD f la g bs] (noHeap noG) fun d _ => ∃ b, d = .val (.bool b) ∧ (b = true → Few f la bs) := by
  refine PCalls.of_pwp Tryz.call6 Tryz.func6 rfl (by simp [Tryz.ntmps6]) ?_
  rw [Tryz.ntmps6]
  unfold partsD
  have m1 := minL f.length
  have m2 := minL la.length
  have w0 := wrapI (((min f.length 700 : Nat) : Int) + ((min la.length 700 : Nat) : Int)) (by omega) (by omega)
  have hml : (bs.map sD).length = bs.length := by simp
  repeat (first | (with_reducible first | refine seq_k fun K hK => ?_ | refine pwp_block ?_ | refine pwp_skip ?_ | refine pwp_ret ?_ | refine pwp_exit ?_ | refine then_n ?_ | refine then_r ?_ | refine then_e ?_ | refine then_g ?_ | refine inB_n ?_ | refine inB_r ?_ | refine inB_e ?_ | refine inB_o rfl ?_ | refine inB_g ?_ | refine Leads.go (by assumption) ?_) | (with_reducible refine region_k fun K hK => ?_; simp [*]) | (with_reducible refine region_drawT_k mixedO (by decide +kernel) fun K hK => ?_; simp [*]) | (with_reducible refine region_tame_a mixedO (by decide +kernel) fun K hK => ?_; simp [*, Low, isLoadB, isTameB, List.range_succ, List.range']) | (with_reducible refine cond_t ?_ ?_; (focus (simp [*]; done))) | (with_reducible refine cond_f ?_ ?_; (focus (simp [*]; done))))
  have hkeep := Hold.mk hbs
  clear hbs
  refine pwp_loop (fun m st => ∃ k n : Nat, k ≤ bs.length ∧ m = bs.length - k ∧ st.env.n = 37 ∧ st.df = [] ∧ st.H.get 0 = some (.cells [sD f, sD la, .slice g 9 (bs.map sD)]) ∧ st.env.get 1 = .ptr 0 0 ∧ st.env.get 3 = .val (.int .i64 n) ∧ st.env.get 4 = .val (.int .i64 k) ∧ n ≤ 3000 ∧ Hold (n < 700 → f.length < 700 ∧ la.length < 700 ∧ 5 * k ≤ n ∧ ∀ b ∈ bs.take k, b.length < 700)) bs.length ⟨0, min f.length 700 + min la.length 700, by omega, by omega, by simp, by simp, by simp, by simp, by simp, by simp, by omega, ⟨fun h => ⟨by omega, by omega, by omega, by simp⟩⟩⟩ ?_
  rintro m ⟨E, Hx, df⟩ ⟨k, n, hk, rfl, en, edf, eH, e1, e3, e4, hn, hP⟩
  simp only at en edf eH e1 e3 e4
  subst edf
  clear m1 m2 w0
  have stop : ∀ b : Bool, (b = true → n < 700 ∧ k = bs.length) → ∃ b', D.val (.bool b) = .val (.bool b') ∧ (b' = true → Few f la bs) := fun b h => ⟨b, rfl, fun hb => by
    obtain ⟨h1, rfl⟩ := h hb
    obtain ⟨q1, q2, q3, q4⟩ := hP.out h1
    rw [List.take_length] at q4
    exact ⟨q1, q2, by omega, q4⟩⟩
  by_cases c1 : (k : Int) < (bs.length : Int)
  · by_cases c2 : (n : Int) < 700
    · have hkl : k < bs.length := by omega
      obtain ⟨b, hb⟩ : ∃ b, bs[k]? = some b := ⟨_, List.getElem?_eq_getElem hkl⟩
      have hpm : (bs.map sD)[k]? = some (sD b) := by rw [List.getElem?_map, hb]; rfl
      have hgl := get_of hpm
      have hbl2 := hkeep.out b (List.mem_of_getElem? hb)
      have m3 := minL b.length
      have w1 := wrapI ((n : Int) + 5) (by omega) (by omega)
      have w2 : IntKind.i64.wrap ((n : Int) + 5 + ((min b.length 700 : Nat) : Int)) = ((n + 5 + min b.length 700 : Nat) : Int) := by rw [wrapI _ (by omega) (by omega)]; omega
      have hw := wrapSucc k (by omega)
      have hP2 : Hold (n + 5 + min b.length 700 < 700 → f.length < 700 ∧ la.length < 700 ∧ 5 * (k + 1) ≤ n + 5 + min b.length 700 ∧ ∀ b ∈ bs.take (k + 1), b.length < 700) := ⟨fun h => by
        obtain ⟨q1, q2, q3, q4⟩ := hP.out (by omega)
        refine ⟨q1, q2, by omega, fun x hx => ?_⟩
        rw [List.take_add_one, hb] at hx
        rcases List.mem_append.1 hx with hx | hx
        · exact q4 x hx
        · simp at hx; subst hx; omega⟩
      have hN : n + 5 + min b.length 700 ≤ 3000 := by omega
      obtain ⟨N, hNe⟩ : ∃ N, n + 5 + min b.length 700 = N := ⟨_, rfl⟩
      rw [hNe] at hP2 hN w2
      have kH := Hold.mk eH
      clear hb hNe stop hP hml
      generalize hB : bs.map sD = B at *
      have hBl : B.length = bs.length := by rw [← hB]; simp
      clear hB
      repeat (first | (with_reducible first | refine seq_k fun K hK => ?_ | refine pwp_block ?_ | refine pwp_skip ?_ | refine pwp_ret ?_ | refine pwp_exit ?_ | refine then_n ?_ | refine then_r ?_ | refine then_e ?_ | refine then_g ?_ | refine inB_n ?_ | refine inB_r ?_ | refine inB_e ?_ | refine inB_o rfl ?_ | refine inB_g ?_ | refine Leads.go (by assumption) ?_) | (with_reducible refine region_k fun K hK => ?_; simp [*]) | (with_reducible refine region_drawT_k mixedO (by decide +kernel) fun K hK => ?_; simp [*]) | (with_reducible refine region_tame_a mixedO (by decide +kernel) fun K hK => ?_; simp [*, Low, isLoadB, isTameB, List.range_succ, List.range']) | (with_reducible refine cond_t ?_ ?_; (focus (simp [*]; done))) | (with_reducible refine cond_f ?_ ?_; (focus (simp [*]; done))))
      refine ⟨bs.length - (k + 1), by omega, k + 1, N, by omega, rfl, by simp [*], rfl, kH.out, by simp [*], by simp [*], by simp [*], hN, hP2⟩
    · have hst := stop false (fun h => by cases h)
      clear stop hP
      repeat (first | (with_reducible first | refine seq_k fun K hK => ?_ | refine pwp_block ?_ | refine pwp_skip ?_ | refine pwp_ret ?_ | refine pwp_exit ?_ | refine then_n ?_ | refine then_r ?_ | refine then_e ?_ | refine then_g ?_ | refine inB_n ?_ | refine inB_r ?_ | refine inB_e ?_ | refine inB_o rfl ?_ | refine inB_g ?_ | refine Leads.go (by assumption) ?_) | (with_reducible refine region_k fun K hK => ?_; simp [*]) | (with_reducible refine region_drawT_k mixedO (by decide +kernel) fun K hK => ?_; simp [*]) | (with_reducible refine region_tame_a mixedO (by decide +kernel) fun K hK => ?_; simp [*, Low, isLoadB, isTameB, List.range_succ, List.range']) | (with_reducible refine cond_t ?_ ?_; (focus (simp [*]; done))) | (with_reducible refine cond_f ?_ ?_; (focus (simp [*]; done))))
      simp [*]
  · have hst := stop (decide (n < 700)) (fun h => ⟨of_decide_eq_true h, by omega⟩)
    have hst2 : (n : Int) < 700 → Few f la bs := fun h => by
      obtain ⟨b', e, q⟩ := hst
      cases e
      exact q (decide_eq_true (by omega))
    clear stop hP hst
    repeat (first | (with_reducible first | refine seq_k fun K hK => ?_ | refine pwp_block ?_ | refine pwp_skip ?_ | refine pwp_ret ?_ | refine pwp_exit ?_ | refine then_n ?_ | refine then_r ?_ | refine then_e ?_ | refine then_g ?_ | refine inB_n ?_ | refine inB_r ?_ | refine inB_e ?_ | refine inB_o rfl ?_ | refine inB_g ?_ | refine Leads.go (by assumption) ?_) | (with_reducible refine region_k fun K hK => ?_; simp [*]) | (with_reducible refine region_drawT_k mixedO (by decide +kernel) fun K hK => ?_; simp [*]) | (with_reducible refine region_tame_a mixedO (by decide +kernel) fun K hK => ?_; simp [*, Low, isLoadB, isTameB, List.range_succ, List.range']) | (with_reducible refine cond_t ?_ ?_; (focus (simp [*]; done))) | (with_reducible refine cond_f ?_ ?_; (focus (simp [*]; done))))
    simp [*]
    exact hst2
set_option maxRecDepth 100000 in
theorem few_spec (f la : By) (g : Nat) (bs : List By) (hf : f.length ≤ 140737488351232) (hla : la.length ≤ 140737488351232) (hbs : ∀ b ∈ bs, b.length ≤ 140737488351232) (hbl : bs.length ≤ 140737488351232) (H : Heap) :
    PCalls Tryz.prog 6 [partsD f la g bs] H fun d H' => (∃ b, d = .val (.bool b) ∧ (b = true → Few f la bs)) ∧ H' = H :=
  PCalls.liftR (G := noG) (few_local f la g bs hf hla hbs hbl) (fun d hd => by
    simp only [List.mem_cons, List.mem_nil_iff, or_false] at hd
    subst hd
    exact pure_parts _ _ _ _) (fun d hd => by obtain ⟨b, rfl, _⟩ := hd; exact .val _) (fun g cs h => by cases h) (fun g cs h => by cases h)
theorem one_sought : soughtM 1 [74, 111, 104, 110, 32, 83, 109, 105, 116, 104] [106, 111] [116, 104] [[83]] = (true, true) := by decide +kernel
set_option maxRecDepth 100000 in
theorem parts_of {n : Nat} {cs : List D} (h : OkC Tryz.prog (n + 3) 24 cs) : ∃ (f la : By) (g : Nat) (bs : List By), cs = [sD f, sD la, .slice g 9 (bs.map sD)] ∧ f.length ≤ 140737488351232 ∧ la.length ≤ 140737488351232 ∧ bs.length ≤ 140737488351232 ∧ ∀ b ∈ bs, b.length ≤ 140737488351232 := by
  unfold OkC at h
  rw [Tryz.underlying24] at h
  obtain ⟨x, r, rfl, h1, y, r2, rfl, h2, z, r3, rfl, h3, rfl⟩ := h
  obtain ⟨f, hf, rfl⟩ := str_of Tryz.underlying9 h1
  obtain ⟨la, hla, rfl⟩ := str_of Tryz.underlying9 h2
  obtain ⟨g, bs, rfl, _, hbl, hbs⟩ := strs_of Tryz.underlying22 Tryz.underlying9 (of_decide_eq_true (by kernel_rfl)) h3
  exact ⟨f, la, g, bs, rfl, hf, hla, hbl, hbs⟩
end Go.Pv
