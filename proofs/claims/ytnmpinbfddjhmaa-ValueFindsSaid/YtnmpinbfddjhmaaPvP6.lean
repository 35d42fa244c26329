/- A part of the proof: functions of the program, walked, or what operations come to. -/
import Derived.Test.YtnmpinbfddjhmaaPvF3
import Derived.Test.YtnmpinbfddjhmaaPvV6
import Derived.Test.YtnmpinbfddjhmaaPvSh
import Derived.Test.YtnmpinbfddjhmaaPvV3
import Derived.Test.YtnmpinbfddjhmaaShelf
-- ZpvTameA ZpvDrawT
namespace Go.Pv
open Go.Proofs
attribute [-simp] eLen UInt8.ofNat_add

/-! ### strings.ReplaceAll by one sign; digits with blanks; a number's text -/
set_option maxRecDepth 100000 in
theorem ReplaceDel_spec (l : By) (c : UInt8) (hl : l.length ≤ 100000) (H : Heap) (hG : MaxIs H 0) : PCalls Try.prog 93 [sD l, sD [c], sD []] H fun d H' => d = sD (delB c l) ∧ H' = H := by
  have h := PCalls.lib (P := Try.prog) (f := 93) (vs := [.string ⟨l.toArray⟩, .string ⟨[c].toArray⟩, .string ⟨([] : By).toArray⟩]) (v := .string ⟨(delB c l).toArray⟩) (fun args w => Try.call93 args w) hG fun m w hm => by
    have := Try.strings_ReplaceAll ⟨l.toArray⟩ ⟨[c].toArray⟩ ⟨([] : By).toArray⟩ m w (by show l.toArray.size < _; simp; omega) hm (by show 1 ≤ [c].toArray.size; simp) (by
      have : (⟨([] : By).toArray⟩ : ByteArray).size = 0 := rfl
      rw [this, Nat.mul_zero, Nat.add_zero]
      show l.toArray.size ≤ _; simp; omega)
    rw [show (⟨l.toArray⟩ : ByteArray).data.toList = l from by simp, show (⟨[c].toArray⟩ : ByteArray).data.toList = [c] from rfl, show (⟨([] : By).toArray⟩ : ByteArray).data.toList = [] from rfl, replaceAll_del] at this
    exact this
  exact h
def numericM (l : By) : Option By := if digsB (delB 32 l) = true then some (delB 32 l) else none
def optD (o : Option By) : D := .tup [sD (o.getD []), .val (.bool o.isSome)]
theorem delB_len (c : UInt8) (l : By) : (delB c l).length ≤ l.length := List.length_filter_le _ _
set_option maxHeartbeats 4000000 in
set_option maxRecDepth 100000 in
theorem fNumeric_spec (l : By) (hl : l.length ≤ 100000) (H : Heap) (hG : MaxIs H 0) : PCalls Try.prog 92 [sD l] H fun d H' => d = optD (numericM l) ∧ H' = H := by
  refine PCalls.of_pwp Try.call92 Try.func92 rfl (by simp [Try.ntmps92]) ?_
  rw [Try.ntmps92]
  repeat (first | (with_reducible first | refine seq_k fun K hK => ?_ | refine pwp_block ?_ | refine pwp_skip ?_ | refine pwp_ret ?_ | refine pwp_exit ?_ | refine then_n ?_ | refine then_r ?_ | refine then_e ?_ | refine then_g ?_ | refine inB_n ?_ | refine inB_r ?_ | refine inB_e ?_ | refine inB_o rfl ?_ | refine inB_g ?_ | refine Leads.go (by assumption) ?_) | (with_reducible refine region_k fun K hK => ?_; simp [*]) | (with_reducible refine region_drawT_k mixedO (by decide +kernel) fun K hK => ?_; simp [*]) | (with_reducible refine region_tame_a mixedO (by decide +kernel) fun K hK => ?_; simp [*, Low, isLoadB, isTameB, List.range_succ, List.range']) | (with_reducible refine cond_t ?_ ?_; (focus (simp [*]; done))) | (with_reducible refine cond_f ?_ ?_; (focus (simp [*]; done))))
  refine PCalls.mono (ReplaceDel_spec l 32 hl _ hG) ?_
  intro d3 H3 hd3
  rw [hd3.1, hd3.2]
  clear hd3
  try simp [*]
  have hdl := delB_len 32 l
  have hnm : numericM l = if digsB (delB 32 l) = true then some (delB 32 l) else none := rfl
  obtain ⟨r, hr⟩ : ∃ r, delB 32 l = r := ⟨_, rfl⟩
  rw [hr] at hdl hnm ⊢
  clear hr
  repeat (first | (with_reducible first | refine seq_k fun K hK => ?_ | refine pwp_block ?_ | refine pwp_skip ?_ | refine pwp_ret ?_ | refine pwp_exit ?_ | refine then_n ?_ | refine then_r ?_ | refine then_e ?_ | refine then_g ?_ | refine inB_n ?_ | refine inB_r ?_ | refine inB_e ?_ | refine inB_o rfl ?_ | refine inB_g ?_ | refine Leads.go (by assumption) ?_) | (with_reducible refine region_k fun K hK => ?_; simp [*]) | (with_reducible refine region_drawT_k mixedO (by decide +kernel) fun K hK => ?_; simp [*]) | (with_reducible refine region_tame_a mixedO (by decide +kernel) fun K hK => ?_; simp [*, Low, isLoadB, isTameB, List.range_succ, List.range']) | (with_reducible refine cond_t ?_ ?_; (focus (simp [*]; done))) | (with_reducible refine cond_f ?_ ?_; (focus (simp [*]; done))))
  refine pwp_for (r.length) (fun k st => st.env.n = 27 ∧ st.df = [] ∧ st.H = H ∧ st.env.get 4 = sD r ∧ st.env.get 9 = .val (.int .i64 r.length) ∧ st.env.get 10 = .val (.int .i64 k) ∧ ((r.take k).all isDig = true)) ⟨by first | (simp; done) | (simp [*]; done), rfl, by first | rfl | simp, by first | (simp; done) | (simp [*]; done), by first | (simp; done) | (simp [*]; done), by first | (simp; done) | (simp [*]; done), by first | (simp; done) | (simp [*]; done)⟩ ?_ ?_
  · rintro k ⟨E, Hx, df⟩ hk ⟨en, edf, eH, e4, e9, e10, eP⟩
    simp only at en edf eH e4 e9 e10
    subst edf; replace eH := eH.symm; subst eH
    have hki : (k : Int) < ((r.length : Nat) : Int) := by omega
    have hkw := wrapSucc k (by omega)
    obtain ⟨c, hc⟩ : ∃ c, r[k]? = some c := ⟨_, List.getElem?_eq_getElem (by omega)⟩
    have bc : byteAt r k = (c.toNat : Int) := byteAt_of hc
    have lc := toNat_lt c
    have hs := all_take_succ isDig r k c hc
    rw [eP, Bool.true_and] at hs
    by_cases h4 : (c.toNat : Int) < 48
    · have h2 : isDig c = false := by simp [isDig]; omega
      have h5 : digsB r = false := by rw [digsB, all_not isDig r k c hc h2, Bool.and_false]
      rw [h5] at hnm
      have hnm2 : numericM l = none := hnm
      clear hnm hs
      repeat (first | (with_reducible first | refine seq_k fun K hK => ?_ | refine pwp_block ?_ | refine pwp_skip ?_ | refine pwp_ret ?_ | refine pwp_exit ?_ | refine then_n ?_ | refine then_r ?_ | refine then_e ?_ | refine then_g ?_ | refine inB_n ?_ | refine inB_r ?_ | refine inB_e ?_ | refine inB_o rfl ?_ | refine inB_g ?_ | refine Leads.go (by assumption) ?_) | (with_reducible refine region_k fun K hK => ?_; simp [*]) | (with_reducible refine region_drawT_k mixedO (by decide +kernel) fun K hK => ?_; simp [*]) | (with_reducible refine region_tame_a mixedO (by decide +kernel) fun K hK => ?_; simp [*, Low, isLoadB, isTameB, List.range_succ, List.range']) | (with_reducible refine cond_t ?_ ?_; (focus (simp [*]; done))) | (with_reducible refine cond_f ?_ ?_; (focus (simp [*]; done))))
      simp [*, optD]
    · by_cases h6 : 57 < (c.toNat : Int)
      · have h2 : isDig c = false := by simp [isDig]; omega
        have h5 : digsB r = false := by rw [digsB, all_not isDig r k c hc h2, Bool.and_false]
        rw [h5] at hnm
        have hnm2 : numericM l = none := hnm
        clear hnm hs
        repeat (first | (with_reducible first | refine seq_k fun K hK => ?_ | refine pwp_block ?_ | refine pwp_skip ?_ | refine pwp_ret ?_ | refine pwp_exit ?_ | refine then_n ?_ | refine then_r ?_ | refine then_e ?_ | refine then_g ?_ | refine inB_n ?_ | refine inB_r ?_ | refine inB_e ?_ | refine inB_o rfl ?_ | refine inB_g ?_ | refine Leads.go (by assumption) ?_) | (with_reducible refine region_k fun K hK => ?_; simp [*]) | (with_reducible refine region_drawT_k mixedO (by decide +kernel) fun K hK => ?_; simp [*]) | (with_reducible refine region_tame_a mixedO (by decide +kernel) fun K hK => ?_; simp [*, Low, isLoadB, isTameB, List.range_succ, List.range']) | (with_reducible refine cond_t ?_ ?_; (focus (simp [*]; done))) | (with_reducible refine cond_f ?_ ?_; (focus (simp [*]; done))))
        simp [*, optD]
      · have h2 : isDig c = true := by simp [isDig]; omega
        rw [h2] at hs
        clear hnm
        repeat (first | (with_reducible first | refine seq_k fun K hK => ?_ | refine pwp_block ?_ | refine pwp_skip ?_ | refine pwp_ret ?_ | refine pwp_exit ?_ | refine then_n ?_ | refine then_r ?_ | refine then_e ?_ | refine then_g ?_ | refine inB_n ?_ | refine inB_r ?_ | refine inB_e ?_ | refine inB_o rfl ?_ | refine inB_g ?_ | refine Leads.go (by assumption) ?_) | (with_reducible refine region_k fun K hK => ?_; simp [*]) | (with_reducible refine region_drawT_k mixedO (by decide +kernel) fun K hK => ?_; simp [*]) | (with_reducible refine region_tame_a mixedO (by decide +kernel) fun K hK => ?_; simp [*, Low, isLoadB, isTameB, List.range_succ, List.range']) | (with_reducible refine cond_t ?_ ?_; (focus (simp [*]; done))) | (with_reducible refine cond_f ?_ ?_; (focus (simp [*]; done))))
        simp [*]
  · rintro ⟨E, Hx, df⟩ ⟨en, edf, eH, e4, e9, e10, eP⟩
    simp only at en edf eH e4 e9 e10
    subst edf; replace eH := eH.symm; subst eH
    rw [List.take_length] at eP
    rw [digsB, eP, Bool.and_true] at hnm
    rcases r with _ | ⟨a, r⟩
    · have hnm2 : numericM l = none := hnm
      clear hnm
      repeat (first | (with_reducible first | refine seq_k fun K hK => ?_ | refine pwp_block ?_ | refine pwp_skip ?_ | refine pwp_ret ?_ | refine pwp_exit ?_ | refine then_n ?_ | refine then_r ?_ | refine then_e ?_ | refine then_g ?_ | refine inB_n ?_ | refine inB_r ?_ | refine inB_e ?_ | refine inB_o rfl ?_ | refine inB_g ?_ | refine Leads.go (by assumption) ?_) | (with_reducible refine region_k fun K hK => ?_; simp [*]) | (with_reducible refine region_drawT_k mixedO (by decide +kernel) fun K hK => ?_; simp [*]) | (with_reducible refine region_tame_a mixedO (by decide +kernel) fun K hK => ?_; simp [*, Low, isLoadB, isTameB, List.range_succ, List.range']) | (with_reducible refine cond_t ?_ ?_; (focus (simp [*]; done))) | (with_reducible refine cond_f ?_ ?_; (focus (simp [*]; done))))
      simp [*, optD]
    · have hnm2 : numericM l = some (a :: r) := hnm
      clear hnm eP
      repeat (first | (with_reducible first | refine seq_k fun K hK => ?_ | refine pwp_block ?_ | refine pwp_skip ?_ | refine pwp_ret ?_ | refine pwp_exit ?_ | refine then_n ?_ | refine then_r ?_ | refine then_e ?_ | refine then_g ?_ | refine inB_n ?_ | refine inB_r ?_ | refine inB_e ?_ | refine inB_o rfl ?_ | refine inB_g ?_ | refine Leads.go (by assumption) ?_) | (with_reducible refine region_k fun K hK => ?_; simp [*]) | (with_reducible refine region_drawT_k mixedO (by decide +kernel) fun K hK => ?_; simp [*]) | (with_reducible refine region_tame_a mixedO (by decide +kernel) fun K hK => ?_; simp [*, Low, isLoadB, isTameB, List.range_succ, List.range']) | (with_reducible refine cond_t ?_ ?_; (focus (simp [*]; done))) | (with_reducible refine cond_f ?_ ?_; (focus (simp [*]; done))))
      simp [*, optD]
set_option maxHeartbeats 4000000 in
set_option maxRecDepth 100000 in
theorem fText_local (x : Nat) : PCalls Try.prog 104 [.val (.float .f64 x)] (noHeap noG) fun d H' => d = sD (textF (plainF x)) := by
  refine PCalls.of_pwp Try.call104 Try.func104 rfl (by simp [Try.ntmps104]) ?_
  rw [Try.ntmps104]
  repeat (first | (with_reducible first | refine seq_k fun K hK => ?_ | refine pwp_block ?_ | refine pwp_skip ?_ | refine pwp_ret ?_ | refine pwp_exit ?_ | refine then_n ?_ | refine then_r ?_ | refine then_e ?_ | refine then_g ?_ | refine inB_n ?_ | refine inB_r ?_ | refine inB_e ?_ | refine inB_o rfl ?_ | refine inB_g ?_ | refine Leads.go (by assumption) ?_) | (with_reducible refine region_k fun K hK => ?_; simp [*]) | (with_reducible refine region_drawT_k mixedO (by decide +kernel) fun K hK => ?_; simp [*]) | (with_reducible refine region_tame_a mixedO (by decide +kernel) fun K hK => ?_; simp [*, Low, isLoadB, isTameB, List.range_succ, List.range']) | (with_reducible refine cond_t ?_ ?_; (focus (simp [*]; done))) | (with_reducible refine cond_f ?_ ?_; (focus (simp [*]; done))))
  refine PCalls.mono (fPlain_spec x _) ?_
  intro d3 H3 hd3
  rw [hd3.1, hd3.2]
  clear hd3
  try simp [*]
  repeat (first | (with_reducible first | refine seq_k fun K hK => ?_ | refine pwp_block ?_ | refine pwp_skip ?_ | refine pwp_ret ?_ | refine pwp_exit ?_ | refine then_n ?_ | refine then_r ?_ | refine then_e ?_ | refine then_g ?_ | refine inB_n ?_ | refine inB_r ?_ | refine inB_e ?_ | refine inB_o rfl ?_ | refine inB_g ?_ | refine Leads.go (by assumption) ?_) | (with_reducible refine region_k fun K hK => ?_; simp [*]) | (with_reducible refine region_drawT_k mixedO (by decide +kernel) fun K hK => ?_; simp [*]) | (with_reducible refine region_tame_a mixedO (by decide +kernel) fun K hK => ?_; simp [*, Low, isLoadB, isTameB, List.range_succ, List.range']) | (with_reducible refine cond_t ?_ ?_; (focus (simp [*]; done))) | (with_reducible refine cond_f ?_ ?_; (focus (simp [*]; done))))
  refine PCalls.mono (fbits_spec (plainF x) _) ?_
  intro d3 H3 hd3
  rw [hd3.1, hd3.2]
  clear hd3
  try simp [*]
  obtain ⟨n, hn⟩ : ∃ n, plainF x = n := ⟨_, rfl⟩
  rw [hn]
  have hL : ∀ k, k < 16 → ((List.range 16).map fun k => byD (nibF n k))[k]? = some (byD (nibF n k)) := fun k hk => by rw [List.getElem?_map, List.getElem?_range hk]; rfl
  have hLl : ((List.range 16).map fun k => byD (nibF n k)).length = 16 := by simp
  have hLm : ((List.range 16).map fun k => byD (nibF n k)) = (textF n).map byD := by rw [textF, List.map_map]; rfl
  obtain ⟨L, hLe⟩ : ∃ L, ((List.range 16).map fun k => byD (nibF n k)) = L := ⟨_, rfl⟩
  rw [hLe] at hL hLl hLm
  clear hLe
  repeat (first | (with_reducible first | refine seq_k fun K hK => ?_ | refine pwp_block ?_ | refine pwp_skip ?_ | refine pwp_ret ?_ | refine pwp_exit ?_ | refine then_n ?_ | refine then_r ?_ | refine then_e ?_ | refine then_g ?_ | refine inB_n ?_ | refine inB_r ?_ | refine inB_e ?_ | refine inB_o rfl ?_ | refine inB_g ?_ | refine Leads.go (by assumption) ?_) | (with_reducible refine region_k fun K hK => ?_; simp [*]) | (with_reducible refine region_drawT_k mixedO (by decide +kernel) fun K hK => ?_; simp [*]) | (with_reducible refine region_tame_a mixedO (by decide +kernel) fun K hK => ?_; simp [*, Low, isLoadB, isTameB, List.range_succ, List.range']) | (with_reducible refine cond_t ?_ ?_; (focus (simp [*]; done))) | (with_reducible refine cond_f ?_ ?_; (focus (simp [*]; done))))
  refine pwp_for (16) (fun k st => st.env.n = 24 ∧ st.df = [] ∧ st.env.get 3 = .val (.int .u64 (n : Nat)) ∧ st.env.get 4 = .ptr 0 0 ∧ st.env.get 9 = .val (.int .i64 k) ∧ (st.H.get 0 = some (.cells (fill L k (.val (.int .u8 0)))))) ⟨by first | (simp; done) | (simp [*]; done), rfl, by first | (simp; done) | (simp [*]; done), by first | (simp; done) | (simp [*]; done), by first | (simp; done) | (simp [*]; done), ?_⟩ ?_ ?_
  · rw [fill_zero, hLl]; simp
  · rintro k ⟨E, Hx, df⟩ hk ⟨en, edf, e3, e4, e9, eP⟩
    simp only at en edf e3 e4 e9
    subst edf
    have hki : (k : Int) < ((16 : Nat) : Int) := by omega
    have hkw := wrapSucc k (by omega)
    simp only at eP
    have k1 : (k : Int) < 16 := by omega
    have w1 := wrapI (4 * (k : Int)) (by omega) (by omega)
    have w2 := wrapI (60 - 4 * (k : Int)) (by omega) (by omega)
    have hs := shr_nib n k hk
    have ha := and15 (n / 16 ^ (15 - k))
    have hb := nib_at n k
    have k60 : 4 * (k : Int) ≤ 60 := by omega
    have k15 : k ≤ 15 := by omega
    have hset := fill_set L k (.val (.int .u8 0)) (byD (nibF n k)) (hL k hk)
    have hfl : (fill L k (.val (.int .u8 0))).length = 16 := by rw [fill_len _ _ _ (by omega)]; exact hLl
    have hfg := fill_get L k (.val (.int .u8 0)) (by omega)
    obtain ⟨F, hF⟩ : ∃ F, fill L k (.val (.int .u8 0)) = F := ⟨_, rfl⟩
    rw [hF] at eP hset hfl hfg
    have hfg2 := get_of hfg
    clear hF hLm hL hLl
    obtain ⟨q, hq⟩ : ∃ q, n / 16 ^ (15 - k) = q := ⟨_, rfl⟩
    rw [hq] at hs ha hb
    clear hq
    obtain ⟨m, hm⟩ : ∃ m, q % 16 = m := ⟨_, rfl⟩
    have hm16 : m < 16 := by omega
    have m1 : (m : Int) < 16 := by omega
    rw [hm] at ha hb
    clear hm
    simp only [byD] at hset
    repeat (first | (with_reducible first | refine seq_k fun K hK => ?_ | refine pwp_block ?_ | refine pwp_skip ?_ | refine pwp_ret ?_ | refine pwp_exit ?_ | refine then_n ?_ | refine then_r ?_ | refine then_e ?_ | refine then_g ?_ | refine inB_n ?_ | refine inB_r ?_ | refine inB_e ?_ | refine inB_o rfl ?_ | refine inB_g ?_ | refine Leads.go (by assumption) ?_) | (with_reducible refine region_k fun K hK => ?_; simp [*]) | (with_reducible refine region_drawT_k mixedO (by decide +kernel) fun K hK => ?_; simp [*]) | (with_reducible refine region_tame_a mixedO (by decide +kernel) fun K hK => ?_; simp [*, Low, isLoadB, isTameB, List.range_succ, List.range']) | (with_reducible refine cond_t ?_ ?_; (focus (simp [*]; done))) | (with_reducible refine cond_f ?_ ?_; (focus (simp [*]; done))))
    simp [*]
  · rintro ⟨E, Hx, df⟩ ⟨en, edf, e3, e4, e9, eP⟩
    simp only at en edf e3 e4 e9
    subst edf
    have e16 : fill L 16 (.val (.int .u8 0)) = L := by rw [← hLl]; exact fill_all L _
    rw [e16, hLm] at eP
    have hts := eToStr_by (textF n)
    have hll : ((textF n).map byD).length = 16 := by simp [textF]
    have htk : ((textF n).map byD).take 16 = (textF n).map byD := List.take_of_length_le (by omega)
    obtain ⟨M, hM⟩ : ∃ M, (textF n).map byD = M := ⟨_, rfl⟩
    rw [hM] at eP hts hll htk
    clear hM hLm e16 hL
    have hmx : 16 ≤ maxLen := by decide
    repeat (first | (with_reducible first | refine seq_k fun K hK => ?_ | refine pwp_block ?_ | refine pwp_skip ?_ | refine pwp_ret ?_ | refine pwp_exit ?_ | refine then_n ?_ | refine then_r ?_ | refine then_e ?_ | refine then_g ?_ | refine inB_n ?_ | refine inB_r ?_ | refine inB_e ?_ | refine inB_o rfl ?_ | refine inB_g ?_ | refine Leads.go (by assumption) ?_) | (with_reducible refine region_k fun K hK => ?_; simp [*]) | (with_reducible refine region_drawT_k mixedO (by decide +kernel) fun K hK => ?_; simp [*]) | (with_reducible refine region_tame_a mixedO (by decide +kernel) fun K hK => ?_; simp [*, Low, isLoadB, isTameB, List.range_succ, List.range']) | (with_reducible refine cond_t ?_ ?_; (focus (simp [*]; done))) | (with_reducible refine cond_f ?_ ?_; (focus (simp [*]; done))))
    simp [*]
set_option maxRecDepth 100000 in
theorem fText_spec (x : Nat) (H : Heap) : PCalls Try.prog 104 [.val (.float .f64 x)] H fun d H' => d = sD (textF (plainF x)) ∧ H' = H :=
  PCalls.alone (vs := [.float .f64 x]) (fText_local x) H
end Go.Pv
