/- A part of the proof: functions of the program, walked, or what operations come to. -/
import Derived.Test.YtaglagcanhiemaaDoorPvO4
import Derived.Test.YtaglagcanhiemaaDoorPvN3
-- ZpvTameA ZpvDrawT
namespace Go.Pv
open Go.Proofs
attribute [-simp] eLen UInt8.ofNat_add

/-! ### Digits -/
@[simp] theorem size_mk (l : By) : (ByteArray.mk l.toArray).size = l.length := by simp [ByteArray.size]
@[simp] theorem wrap0 : IntKind.i64.wrap 0 = 0 := by decide
@[simp] theorem eToStr_by (l : List UInt8) : eToStr (l.map byD) = some (.val (.string ⟨l.toArray⟩)) := by
  have h : (l.map byD).all isByteD = true := by simp [byD, isByteD]
  have h2 : (l.map byD).map toByteD = l := by
    rw [List.map_map]
    have : (toByteD ∘ byD) = id := by funext c; simp [byD, toByteD]
    rw [this, List.map_id]
  rw [eToStr, if_pos h, h2]
theorem tdivN (a b : Nat) : (a : Int).tdiv (b : Int) = ((a / b : Nat) : Int) := by rw [Int.tdiv_eq_ediv_of_nonneg (by omega)]; rfl
theorem tmodN (a b : Nat) : (a : Int).tmod (b : Int) = ((a % b : Nat) : Int) := by rw [Int.tmod_eq_emod_of_nonneg (by omega)]; rfl
theorem u8_add (z : Nat) (h : z < 10) : D.val (.int .u8 (IntKind.u8.wrap (IntKind.i64.wrap (48 + (z : Int))))) = byD (UInt8.ofNat (48 + z)) := by
  rw [byD, dig_nat z h, wrapI _ (by omega) (by omega), wrapB _ (by omega) (by omega)]; rfl
set_option maxHeartbeats 4000000 in
set_option maxRecDepth 100000 in
theorem Digits_local (n : Nat) (hn : n < 9223372036854775808) : PCalls Tryd.prog 24 [natD n] (noHeap noG) fun d _ => d = sD (digits n) := by
  refine PCalls.of_pwp Tryd.call24 Tryd.func24 rfl (by simp [Tryd.ntmps24]) ?_
  rw [Tryd.ntmps24]
  have hd18 := dl_le n hn
  repeat (first | with_reducible refine seq_k fun K hK => ?_ | (with_reducible refine region_k fun K hK => ?_; simp [*]) | (with_reducible refine region_drawT_k mixedO (by decide +kernel) fun K hK => ?_; simp [*]) | (with_reducible refine region_tame_a mixedO (by decide +kernel) fun K hK => ?_; simp [*, Low, isLoadB, isTameB, List.range_succ, List.range']) | with_reducible refine pwp_block ?_ | with_reducible refine pwp_skip ?_ | with_reducible refine pwp_ret ?_ | with_reducible refine pwp_exit ?_ | (with_reducible refine cond_t ?_ ?_; (focus (simp [*]; done))) | (with_reducible refine cond_f ?_ ?_; (focus (simp [*]; done))) | with_reducible refine then_n ?_ | with_reducible refine then_r ?_ | with_reducible refine then_e ?_ | with_reducible refine then_g ?_ | with_reducible refine inB_n ?_ | with_reducible refine inB_r ?_ | with_reducible refine inB_e ?_ | with_reducible refine inB_o rfl ?_ | with_reducible refine inB_g ?_ | with_reducible refine Leads.go (by assumption) ?_)
  refine pwp_for (dl n) (fun k st => st.env.n = 55 ∧ st.df = [] ∧ st.env.get 0 = natD n ∧ st.env.get 4 = natD (n / 10 ^ k) ∧ (∃ d, st.env.get 3 = d ∧ Grow st.H d 5 ((lows n k).map byD))) ⟨by first | (simp; done) | (simp [*]; done), rfl, by first | (simp; done) | (simp [*]; done), by first | (simp; done) | (simp [*]; done), ?_⟩ ?_ ?_
  · exact ⟨.slice 1 0 [], by simp, by simpa [lows] using Grow.nil _ _⟩
  · rintro k ⟨E, Hx, df⟩ hk ⟨en, edf, e0, e4, eP⟩
    simp only at en edf e0 e4
    subst edf
    have hki : (k : Int) < ((dl n : Nat) : Int) := by omega
    have hkw := wrapSucc k (by omega)
    obtain ⟨d, e3, hG⟩ := eP
    simp only at e3 hG
    have hs := dl_step n k hk
    have hst := div_ten_succ n k
    have hll := lows_len n k
    obtain ⟨q, hq⟩ : ∃ q, n / 10 ^ k = q := ⟨_, rfl⟩
    have hql : q ≤ n := by rw [← hq]; exact Nat.div_le_self _ _
    have hlo : lows n (k + 1) = lows n k ++ [UInt8.ofNat (48 + q % 10)] := by rw [← hq]; rfl
    rw [hq] at hs hst e4
    have q1 : (q : Int).tdiv 10 = ((q / 10 : Nat) : Int) := tdivN q 10
    have q2 : (q : Int).tmod 10 = ((q % 10 : Nat) : Int) := tmodN q 10
    have q3 : ¬ ((q % 10 : Nat) : Int) < -((q % 10 : Nat) : Int) := by omega
    have q3b := wrapI (-((q % 10 : Nat) : Int)) (by omega) (by omega)
    have q4 := wrapI ((q / 10 : Nat) : Int) (by omega) (by omega)
    have q6 := u8_add (q % 10) (by omega)
    have q5 : ¬ q / 10 = 0 := by omega
    simp only [natD] at e4 e0
    generalize q % 10 = m at *
    generalize q / 10 = q' at *
    repeat (first | with_reducible refine seq_k fun K hK => ?_ | (with_reducible refine region_k fun K hK => ?_; simp [*]) | (with_reducible refine region_drawT_k mixedO (by decide +kernel) fun K hK => ?_; simp [*]) | (with_reducible refine region_tame_a mixedO (by decide +kernel) fun K hK => ?_; simp [*, Low, isLoadB, isTameB, List.range_succ, List.range']) | with_reducible refine pwp_block ?_ | with_reducible refine pwp_skip ?_ | with_reducible refine pwp_ret ?_ | with_reducible refine pwp_exit ?_ | (with_reducible refine cond_t ?_ ?_; (focus (simp [*]; done))) | (with_reducible refine cond_f ?_ ?_; (focus (simp [*]; done))) | with_reducible refine then_n ?_ | with_reducible refine then_r ?_ | with_reducible refine then_e ?_ | with_reducible refine then_g ?_ | with_reducible refine inB_n ?_ | with_reducible refine inB_r ?_ | with_reducible refine inB_e ?_ | with_reducible refine inB_o rfl ?_ | with_reducible refine inB_g ?_ | with_reducible refine Leads.go (by assumption) ?_)
    refine oK_grow hG ?_ ?_
    · simp; omega
    intro d2 H2 hG2 hn2 hH2 hf2
    try simp [*]
    repeat (first | with_reducible refine seq_k fun K hK => ?_ | (with_reducible refine region_k fun K hK => ?_; simp [*]) | (with_reducible refine region_drawT_k mixedO (by decide +kernel) fun K hK => ?_; simp [*]) | (with_reducible refine region_tame_a mixedO (by decide +kernel) fun K hK => ?_; simp [*, Low, isLoadB, isTameB, List.range_succ, List.range']) | with_reducible refine pwp_block ?_ | with_reducible refine pwp_skip ?_ | with_reducible refine pwp_ret ?_ | with_reducible refine pwp_exit ?_ | (with_reducible refine cond_t ?_ ?_; (focus (simp [*]; done))) | (with_reducible refine cond_f ?_ ?_; (focus (simp [*]; done))) | with_reducible refine then_n ?_ | with_reducible refine then_r ?_ | with_reducible refine then_e ?_ | with_reducible refine then_g ?_ | with_reducible refine inB_n ?_ | with_reducible refine inB_r ?_ | with_reducible refine inB_e ?_ | with_reducible refine inB_o rfl ?_ | with_reducible refine inB_g ?_ | with_reducible refine Leads.go (by assumption) ?_)
    simp [*]
    first
    | exact ⟨rfl, rfl⟩
    | exact ⟨by rw [natD, hst], by simpa using hG2⟩
    | exact (by simpa using hG2)
    | (trace_state; done)
  · rintro ⟨E, Hx, df⟩ ⟨en, edf, e0, e4, eP⟩
    simp only at en edf e0 e4
    subst edf
    obtain ⟨d, e3, hG⟩ := eP
    simp only at e3 hG
    have hs := dl_last n
    have hll := lows_len n (dl n)
    obtain ⟨q, hq⟩ : ∃ q, n / 10 ^ dl n = q := ⟨_, rfl⟩
    have hql : q ≤ n := by rw [← hq]; exact Nat.div_le_self _ _
    have hlo : lows n (dl n + 1) = lows n (dl n) ++ [UInt8.ofNat (48 + q % 10)] := by rw [← hq]; rfl
    have hdr := digits_rev n
    rw [hq] at hs e4
    have q1 : (q : Int).tdiv 10 = ((q / 10 : Nat) : Int) := tdivN q 10
    have q2 : (q : Int).tmod 10 = ((q % 10 : Nat) : Int) := tmodN q 10
    have q3 : ¬ ((q % 10 : Nat) : Int) < -((q % 10 : Nat) : Int) := by omega
    have q3b := wrapI (-((q % 10 : Nat) : Int)) (by omega) (by omega)
    have q4 := wrapI ((q / 10 : Nat) : Int) (by omega) (by omega)
    have q6 := u8_add (q % 10) (by omega)
    have q5 : q / 10 = 0 := by omega
    simp only [natD] at e4 e0
    have n0 : ¬ (n : Int) < 0 := by omega
    generalize q % 10 = m at *
    generalize q / 10 = q' at *
    repeat (first | with_reducible refine seq_k fun K hK => ?_ | (with_reducible refine region_k fun K hK => ?_; simp [*]) | (with_reducible refine region_drawT_k mixedO (by decide +kernel) fun K hK => ?_; simp [*]) | (with_reducible refine region_tame_a mixedO (by decide +kernel) fun K hK => ?_; simp [*, Low, isLoadB, isTameB, List.range_succ, List.range']) | with_reducible refine pwp_block ?_ | with_reducible refine pwp_skip ?_ | with_reducible refine pwp_ret ?_ | with_reducible refine pwp_exit ?_ | (with_reducible refine cond_t ?_ ?_; (focus (simp [*]; done))) | (with_reducible refine cond_f ?_ ?_; (focus (simp [*]; done))) | with_reducible refine then_n ?_ | with_reducible refine then_r ?_ | with_reducible refine then_e ?_ | with_reducible refine then_g ?_ | with_reducible refine inB_n ?_ | with_reducible refine inB_r ?_ | with_reducible refine inB_e ?_ | with_reducible refine inB_o rfl ?_ | with_reducible refine inB_g ?_ | with_reducible refine Leads.go (by assumption) ?_)
    refine oK_grow hG ?_ ?_
    · simp; omega
    intro d2 H2 hG2 hn2 hH2 hf2
    try simp [*]
    rw [← List.map_singleton, ← List.map_append, ← hlo] at hG2
    have hBl := lows_len n (dl n + 1)
    obtain ⟨B, hB⟩ : ∃ B, lows n (dl n + 1) = B := ⟨_, rfl⟩
    rw [hB] at hG2 hBl hdr
    rcases hG2 with ⟨hb, _⟩ | ⟨i, hi, rfl, hgi, hb⟩
    · have : B = [] := by simpa using hb
      rw [this] at hBl; simp at hBl
    clear hf2 hH2 hn2 hG hlo hll hq hql hs hb
    obtain ⟨M, hM⟩ : ∃ M, B.length = M := ⟨_, rfl⟩
    have u1 := wrapI ((M : Int) - 1) (by omega) (by omega)
    simp only [List.length_map, hM]
    have u2 : IntKind.i64.wrap ((M : Int) - 1) = ((M - 1 : Nat) : Int) := by rw [u1]; omega
    clear u1
    obtain ⟨M1, hM1⟩ : ∃ M1, M - 1 = M1 := ⟨_, rfl⟩
    rw [hM1] at u2
    repeat (first | with_reducible refine seq_k fun K hK => ?_ | (with_reducible refine region_k fun K hK => ?_; simp [*]) | (with_reducible refine region_drawT_k mixedO (by decide +kernel) fun K hK => ?_; simp [*]) | (with_reducible refine region_tame_a mixedO (by decide +kernel) fun K hK => ?_; simp [*, Low, isLoadB, isTameB, List.range_succ, List.range']) | with_reducible refine pwp_block ?_ | with_reducible refine pwp_skip ?_ | with_reducible refine pwp_ret ?_ | with_reducible refine pwp_exit ?_ | (with_reducible refine cond_t ?_ ?_; (focus (simp [*]; done))) | (with_reducible refine cond_f ?_ ?_; (focus (simp [*]; done))) | with_reducible refine then_n ?_ | with_reducible refine then_r ?_ | with_reducible refine then_e ?_ | with_reducible refine then_g ?_ | with_reducible refine inB_n ?_ | with_reducible refine inB_r ?_ | with_reducible refine inB_e ?_ | with_reducible refine inB_o rfl ?_ | with_reducible refine inB_g ?_ | with_reducible refine Leads.go (by assumption) ?_)
    clear q1 q2 q3 q3b q4 q5 q6
    obtain ⟨S, hS⟩ : ∃ S, List.map byD B = S := ⟨_, rfl⟩
    have hSl : S.length = M := by rw [← hS]; simp [hM]
    rw [hS] at hgi
    have hgi' := Hold.mk hgi
    refine pwp_for (M / 2) (fun k st => st.env.n = 55 ∧ st.df = [] ∧ st.env.get 3 = .row i 5 0 M ∧ st.env.get 6 = .val (.int .i64 (k : Nat)) ∧ st.env.get 7 = .val (.int .i64 ((M1 - k : Nat) : Int)) ∧ (st.H.get i = some (.row 5 (swapped S (byD 0) k)))) ⟨by first | (simp; done) | (simp [*]; done), rfl, by first | (simp; done) | (simp [*]; done), by first | (simp; done) | (simp [*]; done), by first | (simp; done) | (simp [*]; done), ?_⟩ ?_ ?_
    · rw [swapped_zero]; exact hgi
    · clear hgi
      rintro k ⟨E, Hx, df⟩ hk ⟨en, edf, e3, e6, e7, eP⟩
      simp only at en edf e3 e6 e7
      subst edf
      have hki : (k : Int) < ((M / 2 : Nat) : Int) := by omega
      have hkw := wrapSucc k (by omega)
      obtain ⟨r, hr⟩ : ∃ r, M1 - k = r := ⟨_, rfl⟩
      rw [hr] at e7
      have a1 : k < B.length := by omega
      have a2 : r < B.length := by omega
      obtain ⟨c1, hc1⟩ : ∃ c, B[k] = c := ⟨_, rfl⟩
      obtain ⟨c2, hc2⟩ : ∃ c, B[r] = c := ⟨_, rfl⟩
      have b1 : S.getD k (byD 0) = byD c1 := by rw [← hS, List.getD, List.getElem?_map, List.getElem?_eq_getElem a1, hc1]; rfl
      have b2 : S.getD r (byD 0) = byD c2 := by rw [← hS, List.getD, List.getElem?_map, List.getElem?_eq_getElem a2, hc2]; rfl
      have hrS : S.length - 1 - k = r := by omega
      have g1 := swapped_lo S (byD 0) k (by omega)
      have g2 := swapped_hi S (byD 0) k (by omega)
      have g3 := swapped_step S (byD 0) k (by omega)
      rw [hrS] at g2 g3
      rw [b1] at g1 g3
      rw [b2] at g2 g3
      have hSw := swapped_len S (byD 0) k
      have k1 := get_of g1
      have k2 := get_of g2
      have hne : ¬ k = r := by omega
      have v1 : (k : Int) < (r : Int) := by omega
      have v2 : (k : Int) < (M : Int) := by omega
      have v3 : (r : Int) < (M : Int) := by omega
      have v4 : IntKind.i64.wrap ((r : Int) - 1) = ((M1 - (k + 1) : Nat) : Int) := by rw [wrapI _ (by omega) (by omega)]; omega
      clear hS hc1 hc2 b1 b2 a1 a2 hB hdr hBl hM
      generalize hW : swapped S (byD 0) k = W at *
      repeat (first | with_reducible refine seq_k fun K hK => ?_ | (with_reducible refine region_k fun K hK => ?_; simp [*]) | (with_reducible refine region_drawT_k mixedO (by decide +kernel) fun K hK => ?_; simp [*]) | (with_reducible refine region_tame_a mixedO (by decide +kernel) fun K hK => ?_; simp [*, Low, isLoadB, isTameB, List.range_succ, List.range']) | with_reducible refine pwp_block ?_ | with_reducible refine pwp_skip ?_ | with_reducible refine pwp_ret ?_ | with_reducible refine pwp_exit ?_ | (with_reducible refine cond_t ?_ ?_; (focus (simp [*]; done))) | (with_reducible refine cond_f ?_ ?_; (focus (simp [*]; done))) | with_reducible refine then_n ?_ | with_reducible refine then_r ?_ | with_reducible refine then_e ?_ | with_reducible refine then_g ?_ | with_reducible refine inB_n ?_ | with_reducible refine inB_r ?_ | with_reducible refine inB_e ?_ | with_reducible refine inB_o rfl ?_ | with_reducible refine inB_g ?_ | with_reducible refine Leads.go (by assumption) ?_)
      simp [*]
    · rintro ⟨E, Hx, df⟩ ⟨en, edf, e3, e6, e7, eP⟩
      simp only at en edf e3 e6 e7
      subst edf
      have hal := swapped_all S (byD 0) (M / 2) (by omega)
      rw [hal, ← hS, ← List.map_reverse] at eP
      have hrl : (B.reverse.map byD).length = M := by simp [hM]
      have htk : (B.reverse.map byD).take M = B.reverse.map byD := List.take_of_length_le (by omega)
      have v1 : ¬ ((M / 2 : Nat) : Int) < ((M1 - M / 2 : Nat) : Int) := by omega
      generalize M1 - M / 2 = r at *
      generalize M / 2 = r2 at *
      generalize hC : B.reverse = C at *
      clear hS hC hal hgi hM hBl
      repeat (first | with_reducible refine seq_k fun K hK => ?_ | (with_reducible refine region_k fun K hK => ?_; simp [*]) | (with_reducible refine region_drawT_k mixedO (by decide +kernel) fun K hK => ?_; simp [*]) | (with_reducible refine region_tame_a mixedO (by decide +kernel) fun K hK => ?_; simp [*, Low, isLoadB, isTameB, List.range_succ, List.range']) | with_reducible refine pwp_block ?_ | with_reducible refine pwp_skip ?_ | with_reducible refine pwp_ret ?_ | with_reducible refine pwp_exit ?_ | (with_reducible refine cond_t ?_ ?_; (focus (simp [*]; done))) | (with_reducible refine cond_f ?_ ?_; (focus (simp [*]; done))) | with_reducible refine then_n ?_ | with_reducible refine then_r ?_ | with_reducible refine then_e ?_ | with_reducible refine then_g ?_ | with_reducible refine inB_n ?_ | with_reducible refine inB_r ?_ | with_reducible refine inB_e ?_ | with_reducible refine inB_o rfl ?_ | with_reducible refine inB_g ?_ | with_reducible refine Leads.go (by assumption) ?_)
      simp [*]
theorem Digits_spec (n : Nat) (hn : n < 9223372036854775808) (H : Heap) : PCalls Tryd.prog 24 [natD n] H fun d H' => d = sD (digits n) ∧ H' = H :=
  PCalls.alone (vs := [.int .i64 (n : Nat)]) (Digits_local n hn) H
set_option maxHeartbeats 4000000 in
set_option maxRecDepth 100000 in
theorem rDigits_local (n : Nat) : n < 9223372036854775808 → ∀ H, PCalls Tryd.prog 29 [natD n] H fun d H' => d = sD (digits n) ∧ H' = H := by
  induction n using Nat.strongRecOn with
  | _ n ih =>
    intro hn H
    refine PCalls.of_pwp Tryd.call29 Tryd.func29 rfl (by simp [Tryd.ntmps29]) ?_
    rw [Tryd.ntmps29]
    simp only [natD]
    by_cases h : n < 10
    · have h0 : (0 : Int) ≤ (n : Int) := by omega
      have h1 : (n : Int) < 10 := by omega
      have h2 := wrapI ((n : Int) + 1) (by omega) (by omega)
      have h3 : (n : Int) ≤ (n : Int) + 1 := by omega
      have h4 : (n : Int) + 1 ≤ 10 := by omega
      have hc : List.drop n (48 :: List.take n [49, 50, 51, 52, 53, 54, 55, 56, 57]) = digits n := by
        rw [digits_lt n h]
        have : n = 0 ∨ n = 1 ∨ n = 2 ∨ n = 3 ∨ n = 4 ∨ n = 5 ∨ n = 6 ∨ n = 7 ∨ n = 8 ∨ n = 9 := by omega
        rcases this with rfl | rfl | rfl | rfl | rfl | rfl | rfl | rfl | rfl | rfl <;> rfl
      repeat (first | with_reducible refine seq_k fun K hK => ?_ | (with_reducible refine region_k fun K hK => ?_; simp [*]) | (with_reducible refine region_drawT_k mixedO (by decide +kernel) fun K hK => ?_; simp [*]) | (with_reducible refine region_tame_a mixedO (by decide +kernel) fun K hK => ?_; simp [*, Low, isLoadB, isTameB, List.range_succ, List.range']) | with_reducible refine pwp_block ?_ | with_reducible refine pwp_skip ?_ | with_reducible refine pwp_ret ?_ | with_reducible refine pwp_exit ?_ | (with_reducible refine cond_t ?_ ?_; (focus (simp [*]; done))) | (with_reducible refine cond_f ?_ ?_; (focus (simp [*]; done))) | with_reducible refine then_n ?_ | with_reducible refine then_r ?_ | with_reducible refine then_e ?_ | with_reducible refine then_g ?_ | with_reducible refine inB_n ?_ | with_reducible refine inB_r ?_ | with_reducible refine inB_e ?_ | with_reducible refine inB_o rfl ?_ | with_reducible refine inB_g ?_ | with_reducible refine Leads.go (by assumption) ?_)
      simp [*]
    · have i1 := ih (n / 10) (by omega) (by omega)
      have i2 := ih (n % 10) (by omega) (by omega)
      have q1 : (n : Int).tdiv 10 = ((n / 10 : Nat) : Int) := tdivN n 10
      have q2 : (n : Int).tmod 10 = ((n % 10 : Nat) : Int) := tmodN n 10
      have h0 : 0 < n := by omega
      have h1 : ¬ (n : Int) < 10 := by omega
      have q4 := wrapI ((n / 10 : Nat) : Int) (by omega) (by omega)
      have hd := digits_ge n h
      rw [← digits_lt (n % 10) (by omega)] at hd
      have hl1 : (digits (n / 10)).length ≤ 19 := digits_len 18 _ (by omega)
      have hl2 : (digits (n % 10)).length ≤ 19 := digits_len 18 _ (by omega)
      clear ih
      generalize n / 10 = a at *
      generalize n % 10 = b at *
      simp only [natD] at i1 i2
      repeat (first | with_reducible refine seq_k fun K hK => ?_ | (with_reducible refine region_k fun K hK => ?_; simp [*]) | (with_reducible refine region_drawT_k mixedO (by decide +kernel) fun K hK => ?_; simp [*]) | (with_reducible refine region_tame_a mixedO (by decide +kernel) fun K hK => ?_; simp [*, Low, isLoadB, isTameB, List.range_succ, List.range']) | with_reducible refine pwp_block ?_ | with_reducible refine pwp_skip ?_ | with_reducible refine pwp_ret ?_ | with_reducible refine pwp_exit ?_ | (with_reducible refine cond_t ?_ ?_; (focus (simp [*]; done))) | (with_reducible refine cond_f ?_ ?_; (focus (simp [*]; done))) | with_reducible refine then_n ?_ | with_reducible refine then_r ?_ | with_reducible refine then_e ?_ | with_reducible refine then_g ?_ | with_reducible refine inB_n ?_ | with_reducible refine inB_r ?_ | with_reducible refine inB_e ?_ | with_reducible refine inB_o rfl ?_ | with_reducible refine inB_g ?_ | with_reducible refine Leads.go (by assumption) ?_)
      refine PCalls.mono (i1 _) ?_
      intro d3 H3 hd3
      rw [hd3.1, hd3.2]
      clear hd3
      try simp [*]
      repeat (first | with_reducible refine seq_k fun K hK => ?_ | (with_reducible refine region_k fun K hK => ?_; simp [*]) | (with_reducible refine region_drawT_k mixedO (by decide +kernel) fun K hK => ?_; simp [*]) | (with_reducible refine region_tame_a mixedO (by decide +kernel) fun K hK => ?_; simp [*, Low, isLoadB, isTameB, List.range_succ, List.range']) | with_reducible refine pwp_block ?_ | with_reducible refine pwp_skip ?_ | with_reducible refine pwp_ret ?_ | with_reducible refine pwp_exit ?_ | (with_reducible refine cond_t ?_ ?_; (focus (simp [*]; done))) | (with_reducible refine cond_f ?_ ?_; (focus (simp [*]; done))) | with_reducible refine then_n ?_ | with_reducible refine then_r ?_ | with_reducible refine then_e ?_ | with_reducible refine then_g ?_ | with_reducible refine inB_n ?_ | with_reducible refine inB_r ?_ | with_reducible refine inB_e ?_ | with_reducible refine inB_o rfl ?_ | with_reducible refine inB_g ?_ | with_reducible refine Leads.go (by assumption) ?_)
      refine PCalls.mono (i2 _) ?_
      intro d3 H3 hd3
      rw [hd3.1, hd3.2]
      clear hd3
      try simp [*]
      have hb : (digits a).length + (digits b).length ≤ 9223372036854775807 := by omega
      try simp [*]
      repeat (first | with_reducible refine seq_k fun K hK => ?_ | (with_reducible refine region_k fun K hK => ?_; simp [*]) | (with_reducible refine region_drawT_k mixedO (by decide +kernel) fun K hK => ?_; simp [*]) | (with_reducible refine region_tame_a mixedO (by decide +kernel) fun K hK => ?_; simp [*, Low, isLoadB, isTameB, List.range_succ, List.range']) | with_reducible refine pwp_block ?_ | with_reducible refine pwp_skip ?_ | with_reducible refine pwp_ret ?_ | with_reducible refine pwp_exit ?_ | (with_reducible refine cond_t ?_ ?_; (focus (simp [*]; done))) | (with_reducible refine cond_f ?_ ?_; (focus (simp [*]; done))) | with_reducible refine then_n ?_ | with_reducible refine then_r ?_ | with_reducible refine then_e ?_ | with_reducible refine then_g ?_ | with_reducible refine inB_n ?_ | with_reducible refine inB_r ?_ | with_reducible refine inB_e ?_ | with_reducible refine inB_o rfl ?_ | with_reducible refine inB_g ?_ | with_reducible refine Leads.go (by assumption) ?_)
      simp [*]
end Go.Pv
