/- A part of the proof: functions of the program, walked, or what operations come to. -/
import Derived.Test.YtnmpinbfddjhmaaPvF1
import Derived.Test.YtnmpinbfddjhmaaPvV2
namespace Go.Pv
/-! ### Sixteen digits of bits -/
def hexM (c : UInt8) : Option Nat :=
  if 48 ≤ c.toNat ∧ c.toNat ≤ 57 then some (c.toNat - 48)
  else if 97 ≤ c.toNat ∧ c.toNat ≤ 102 then some (c.toNat - 97 + 10)
  else if 65 ≤ c.toNat ∧ c.toNat ≤ 70 then some (c.toNat - 65 + 10) else none
theorem hexM_lt {c : UInt8} {n : Nat} (h : hexM c = some n) : n < 16 := by
  unfold hexM at h
  split at h
  · simp at h; omega
  · split at h
    · simp at h; omega
    · split at h
      · simp at h; omega
      · cases h
def hexAll (l : By) : Bool := l.all fun c => (hexM c).isSome
def hexV (l : By) : Nat := l.foldl (fun a c => a * 16 + (hexM c).getD 0) 0
def parseM (l : By) : Option Nat := if l.length = 16 ∧ hexAll l = true then some (hexV l) else none
theorem hexV_take (l : By) (k : Nat) (c : UInt8) (h : l[k]? = some c) : hexV (l.take (k + 1)) = hexV (l.take k) * 16 + (hexM c).getD 0 := by
  unfold hexV
  rw [List.take_add_one, h, List.foldl_append]; rfl
@[simp] theorem hexV_nil : hexV [] = 0 := rfl
@[simp] theorem hexAll_nil : hexAll [] = true := rfl
theorem hexV_lt (l : By) : hexV l < 16 ^ l.length := by
  suffices h : ∀ (l : By) (a m : Nat), a < m → l.foldl (fun a c => a * 16 + (hexM c).getD 0) a < m * 16 ^ l.length by
    have := h l 0 1 (by decide)
    simpa [hexV] using this
  intro l
  induction l with
  | nil => intro a m h; simpa using h
  | cons c l ih =>
    intro a m h
    have hc : (hexM c).getD 0 < 16 := by
      cases hq : hexM c with
      | none => simp
      | some n => exact hexM_lt hq
    have := ih (a * 16 + (hexM c).getD 0) (m * 16) (by omega)
    rw [List.foldl_cons, List.length_cons, Nat.pow_succ, Nat.mul_comm (16 ^ _) 16, ← Nat.mul_assoc]
    exact this
theorem wrapU (n : Int) (h : 0 ≤ n) (h' : n < 18446744073709551616) : IntKind.u64.wrap n = n := by
  simp [IntKind.wrap, IntKind.bits, IntKind.signed]; omega
theorem nib_or (v d : Nat) (hv : v * 16 < 18446744073709551616) (hd : d < 16) : IntKind.u64.wrap ((((IntKind.u64.wrap ((v : Int) * 2 ^ min 4 IntKind.u64.bits) % 2 ^ IntKind.u64.bits).toNat ||| d % 2 ^ IntKind.u64.bits : Nat) : Int)) = ((v * 16 + d : Nat) : Int) := by
  have e1 : (2 : Int) ^ min 4 IntKind.u64.bits = 16 := rfl
  have e2 : (2 : Int) ^ IntKind.u64.bits = 18446744073709551616 := rfl
  have e3 : d % 2 ^ IntKind.u64.bits = d := by rw [show (2 : Nat) ^ IntKind.u64.bits = 18446744073709551616 from rfl]; omega
  rw [e1, e2, e3, wrapU ((v : Int) * 16) (by omega) (by omega)]
  have a1 : ((v : Int) * 16 % 18446744073709551616).toNat = v <<< 4 := by rw [Nat.shiftLeft_eq]; omega
  rw [a1, ← Nat.shiftLeft_add_eq_or_of_lt (by omega), wrapU _ (by omega) (by rw [Nat.shiftLeft_eq]; omega), Nat.shiftLeft_eq]
end Go.Pv
-- ZpvTameA ZpvDrawT
namespace Go.Pv
open Go.Proofs
attribute [-simp] eLen UInt8.ofNat_add

/-! ### Numbers of sixteen digits -/
set_option maxRecDepth 100000 in
theorem fdigit_spec (c : UInt8) (H : Heap) : PCalls Try.prog 106 [.val (.int .u8 (c.toNat : Nat))] H fun d H' => d = .tup [.val (.int .u64 (((hexM c).getD 0 : Nat) : Int)), .val (.bool (hexM c).isSome)] ∧ H' = H := by
  have key : ((List.range 256).all fun n => match runFz Try.prog 60 106 [.val (.int .u8 (n : Nat))] with | some (.tup [.val (.int .u64 a), .val (.bool b)]) => decide (a = (((hexM (UInt8.ofNat n)).getD 0 : Nat) : Int)) && (b == (hexM (UInt8.ofNat n)).isSome) | _ => false) = true := by kernel_rfl
  have hc := List.all_eq_true.1 key c.toNat (List.mem_range.2 c.toNat_lt)
  split at hc
  · rename_i a b e
    have hg : UInt8.ofNat c.toNat = c := by simp
    rw [hg] at hc
    simp only [Bool.and_eq_true, decide_eq_true_eq, beq_iff_eq] at hc
    rw [hc.1, hc.2] at e
    exact PCalls.liftG (runFz_spec mixedO e) (fun d hd => by simp at hd; subst hd; exact .val _) (.tup _ fun d hd => by simp at hd; rcases hd with rfl | rfl <;> exact .val _) H
  · cases hc
set_option maxRecDepth 100000 in
theorem frombits_spec (n : Nat) (H : Heap) : PCalls Try.prog 107 [.val (.int .u64 (n : Nat))] H fun d H' => d = .val (.float .f64 n) ∧ H' = H :=
  (prOf_sound (x := (107, .frombits)) ⟨_, Try.func107, by kernel_rfl, by kernel_rfl, by kernel_rfl, by kernel_rfl⟩ rfl).mono fun d H' h => ⟨by rw [h.1]; simp, h.2⟩
set_option maxRecDepth 100000 in
theorem fbits_spec (n : Nat) (H : Heap) : PCalls Try.prog 108 [.val (.float .f64 n)] H fun d H' => d = .val (.int .u64 (n : Nat)) ∧ H' = H :=
  (prOf_sound (x := (108, .bits)) ⟨_, Try.func108, by kernel_rfl, by kernel_rfl, by kernel_rfl, by kernel_rfl⟩ rfl).mono fun d H' h => ⟨h.1, h.2⟩
def fltD (o : Option Nat) : D := .tup [.val (.float .f64 (o.getD 0)), .val (.bool o.isSome)]
theorem hexAll_succ (l : By) (k : Nat) (c : UInt8) (h : l[k]? = some c) : hexAll (l.take (k + 1)) = (hexAll (l.take k) && (hexM c).isSome) := by
  unfold hexAll; rw [List.take_add_one, h]; simp
theorem hexAll_not (l : By) (k : Nat) (c : UInt8) (h : l[k]? = some c) (hp : hexM c = none) : hexAll l = false := by
  cases hq : hexAll l with
  | false => rfl
  | true => have := List.all_eq_true.1 hq c (List.mem_of_getElem? h); rw [hp] at this; cases this
set_option maxHeartbeats 4000000 in
set_option maxRecDepth 100000 in
theorem fParse_spec (l : By) (H : Heap) : PCalls Try.prog 103 [sD l] H fun d H' => d = fltD (parseM l) ∧ H' = H := by
  refine PCalls.of_pwp Try.call103 Try.func103 rfl (by simp [Try.ntmps103]) ?_
  rw [Try.ntmps103]
  by_cases h16 : l.length = 16
  · have h16i : (l.length : Int) = 16 := by omega
    repeat (first | (with_reducible first | refine seq_k fun K hK => ?_ | refine pwp_block ?_ | refine pwp_skip ?_ | refine pwp_ret ?_ | refine pwp_exit ?_ | refine then_n ?_ | refine then_r ?_ | refine then_e ?_ | refine then_g ?_ | refine inB_n ?_ | refine inB_r ?_ | refine inB_e ?_ | refine inB_o rfl ?_ | refine inB_g ?_ | refine Leads.go (by assumption) ?_) | (with_reducible refine region_k fun K hK => ?_; simp [*]) | (with_reducible refine region_drawT_k mixedO (by decide +kernel) fun K hK => ?_; simp [*]) | (with_reducible refine region_tame_a mixedO (by decide +kernel) fun K hK => ?_; simp [*, Low, isLoadB, isTameB, List.range_succ, List.range']) | (with_reducible refine cond_t ?_ ?_; (focus (simp [*]; done))) | (with_reducible refine cond_f ?_ ?_; (focus (simp [*]; done))))
    refine pwp_for (16) (fun k st => st.env.n = 30 ∧ st.df = [] ∧ st.H = H ∧ st.env.get 0 = sD l ∧ st.env.get 4 = .val (.int .u64 ((hexV (l.take k) : Nat) : Int)) ∧ st.env.get 11 = .val (.int .i64 k) ∧ (Hold (hexAll (l.take k) = true))) ⟨by first | (simp; done) | (simp [*]; done), rfl, by first | rfl | simp, by first | (simp; done) | (simp [*]; done), by first | (simp; done) | (simp [*]; done), by first | (simp; done) | (simp [*]; done), by first | done | exact ⟨by simp⟩ | simp⟩ ?_ ?_
    · rintro k ⟨E, Hx, df⟩ hk ⟨en, edf, eH, e0, e4, e11, eP⟩
      simp only at en edf eH e0 e4 e11
      subst edf; replace eH := eH.symm; subst eH
      have hki : (k : Int) < ((16 : Nat) : Int) := by omega
      have hkw := wrapSucc k (by omega)
      obtain ⟨c, hc⟩ : ∃ c, l[k]? = some c := ⟨_, List.getElem?_eq_getElem (by omega)⟩
      have bc : byteAt l k = (c.toNat : Int) := byteAt_of hc
      have lc := toNat_lt c
      have hs := hexAll_succ l k c hc
      rw [eP.out, Bool.true_and] at hs
      have hv := hexV_take l k c hc
      have hlt := hexV_lt (l.take k)
      have hl15 : (l.take k).length ≤ 15 := by simp; omega
      have hlt2 : hexV (l.take k) < 16 ^ 15 := Nat.lt_of_lt_of_le hlt (Nat.pow_le_pow_right (by decide) hl15)
      obtain ⟨v, hve⟩ : ∃ v, hexV (l.take k) = v := ⟨_, rfl⟩
      rw [hve] at hv hlt2 e4
      have k1 : (k : Int) < 16 := by omega
      have k2 : (k : Int) < (l.length : Int) := by omega
      have hkl : k < l.length := by omega
      cases hd : hexM c with
      | none =>
        have hp : parseM l = none := by rw [parseM, if_neg]; rw [hexAll_not l k c hc hd]; simp
        clear hs hve
        repeat (first | (with_reducible first | refine seq_k fun K hK => ?_ | refine pwp_block ?_ | refine pwp_skip ?_ | refine pwp_ret ?_ | refine pwp_exit ?_ | refine then_n ?_ | refine then_r ?_ | refine then_e ?_ | refine then_g ?_ | refine inB_n ?_ | refine inB_r ?_ | refine inB_e ?_ | refine inB_o rfl ?_ | refine inB_g ?_ | refine Leads.go (by assumption) ?_) | (with_reducible refine region_k fun K hK => ?_; simp [*]) | (with_reducible refine region_drawT_k mixedO (by decide +kernel) fun K hK => ?_; simp [*]) | (with_reducible refine region_tame_a mixedO (by decide +kernel) fun K hK => ?_; simp [*, Low, isLoadB, isTameB, List.range_succ, List.range']) | (with_reducible refine cond_t ?_ ?_; (focus (simp [*]; done))) | (with_reducible refine cond_f ?_ ?_; (focus (simp [*]; done))))
        refine PCalls.mono (fdigit_spec c _) ?_
        intro d3 H3 hd3
        rw [hd3.1, hd3.2]
        clear hd3
        try simp [*]
        try simp [*]
        repeat (first | (with_reducible first | refine seq_k fun K hK => ?_ | refine pwp_block ?_ | refine pwp_skip ?_ | refine pwp_ret ?_ | refine pwp_exit ?_ | refine then_n ?_ | refine then_r ?_ | refine then_e ?_ | refine then_g ?_ | refine inB_n ?_ | refine inB_r ?_ | refine inB_e ?_ | refine inB_o rfl ?_ | refine inB_g ?_ | refine Leads.go (by assumption) ?_) | (with_reducible refine region_k fun K hK => ?_; simp [*]) | (with_reducible refine region_drawT_k mixedO (by decide +kernel) fun K hK => ?_; simp [*]) | (with_reducible refine region_tame_a mixedO (by decide +kernel) fun K hK => ?_; simp [*, Low, isLoadB, isTameB, List.range_succ, List.range']) | (with_reducible refine cond_t ?_ ?_; (focus (simp [*]; done))) | (with_reducible refine cond_f ?_ ?_; (focus (simp [*]; done))))
        simp [*, fltD]
      | some n =>
        have hn := hexM_lt hd
        rw [hd] at hs hv
        simp only [Option.getD_some, Option.isSome_some] at hs hv
        have hor := nib_or v n (by omega) hn
        have hs' := Hold.mk hs
        clear hs hve
        repeat (first | (with_reducible first | refine seq_k fun K hK => ?_ | refine pwp_block ?_ | refine pwp_skip ?_ | refine pwp_ret ?_ | refine pwp_exit ?_ | refine then_n ?_ | refine then_r ?_ | refine then_e ?_ | refine then_g ?_ | refine inB_n ?_ | refine inB_r ?_ | refine inB_e ?_ | refine inB_o rfl ?_ | refine inB_g ?_ | refine Leads.go (by assumption) ?_) | (with_reducible refine region_k fun K hK => ?_; simp [*]) | (with_reducible refine region_drawT_k mixedO (by decide +kernel) fun K hK => ?_; simp [*]) | (with_reducible refine region_tame_a mixedO (by decide +kernel) fun K hK => ?_; simp [*, Low, isLoadB, isTameB, List.range_succ, List.range']) | (with_reducible refine cond_t ?_ ?_; (focus (simp [*]; done))) | (with_reducible refine cond_f ?_ ?_; (focus (simp [*]; done))))
        refine PCalls.mono (fdigit_spec c _) ?_
        intro d3 H3 hd3
        rw [hd3.1, hd3.2]
        clear hd3
        try simp [*]
        try simp [*]
        repeat (first | (with_reducible first | refine seq_k fun K hK => ?_ | refine pwp_block ?_ | refine pwp_skip ?_ | refine pwp_ret ?_ | refine pwp_exit ?_ | refine then_n ?_ | refine then_r ?_ | refine then_e ?_ | refine then_g ?_ | refine inB_n ?_ | refine inB_r ?_ | refine inB_e ?_ | refine inB_o rfl ?_ | refine inB_g ?_ | refine Leads.go (by assumption) ?_) | (with_reducible refine region_k fun K hK => ?_; simp [*]) | (with_reducible refine region_drawT_k mixedO (by decide +kernel) fun K hK => ?_; simp [*]) | (with_reducible refine region_tame_a mixedO (by decide +kernel) fun K hK => ?_; simp [*, Low, isLoadB, isTameB, List.range_succ, List.range']) | (with_reducible refine cond_t ?_ ?_; (focus (simp [*]; done))) | (with_reducible refine cond_f ?_ ?_; (focus (simp [*]; done))))
        simp [*]
        first
        | done
        | exact ⟨by simpa using hs'.out⟩
    · rintro ⟨E, Hx, df⟩ ⟨en, edf, eH, e0, e4, e11, eP⟩
      simp only at en edf eH e0 e4 e11
      subst edf; replace eH := eH.symm; subst eH
      have h5 := eP.out
      have ht : l.take 16 = l := List.take_of_length_le (by omega)
      rw [ht] at h5 e4
      have hp : parseM l = some (hexV l) := by rw [parseM, if_pos ⟨h16, h5⟩]
      clear h5 ht eP
      repeat (first | (with_reducible first | refine seq_k fun K hK => ?_ | refine pwp_block ?_ | refine pwp_skip ?_ | refine pwp_ret ?_ | refine pwp_exit ?_ | refine then_n ?_ | refine then_r ?_ | refine then_e ?_ | refine then_g ?_ | refine inB_n ?_ | refine inB_r ?_ | refine inB_e ?_ | refine inB_o rfl ?_ | refine inB_g ?_ | refine Leads.go (by assumption) ?_) | (with_reducible refine region_k fun K hK => ?_; simp [*]) | (with_reducible refine region_drawT_k mixedO (by decide +kernel) fun K hK => ?_; simp [*]) | (with_reducible refine region_tame_a mixedO (by decide +kernel) fun K hK => ?_; simp [*, Low, isLoadB, isTameB, List.range_succ, List.range']) | (with_reducible refine cond_t ?_ ?_; (focus (simp [*]; done))) | (with_reducible refine cond_f ?_ ?_; (focus (simp [*]; done))))
      refine PCalls.mono (frombits_spec (hexV l) _) ?_
      intro d3 H3 hd3
      rw [hd3.1, hd3.2]
      clear hd3
      try simp [*]
      repeat (first | (with_reducible first | refine seq_k fun K hK => ?_ | refine pwp_block ?_ | refine pwp_skip ?_ | refine pwp_ret ?_ | refine pwp_exit ?_ | refine then_n ?_ | refine then_r ?_ | refine then_e ?_ | refine then_g ?_ | refine inB_n ?_ | refine inB_r ?_ | refine inB_e ?_ | refine inB_o rfl ?_ | refine inB_g ?_ | refine Leads.go (by assumption) ?_) | (with_reducible refine region_k fun K hK => ?_; simp [*]) | (with_reducible refine region_drawT_k mixedO (by decide +kernel) fun K hK => ?_; simp [*]) | (with_reducible refine region_tame_a mixedO (by decide +kernel) fun K hK => ?_; simp [*, Low, isLoadB, isTameB, List.range_succ, List.range']) | (with_reducible refine cond_t ?_ ?_; (focus (simp [*]; done))) | (with_reducible refine cond_f ?_ ?_; (focus (simp [*]; done))))
      simp [*, fltD]
  · have h16i : ¬ (l.length : Int) = 16 := by omega
    have hp : parseM l = none := by rw [parseM, if_neg]; simp [h16]
    repeat (first | (with_reducible first | refine seq_k fun K hK => ?_ | refine pwp_block ?_ | refine pwp_skip ?_ | refine pwp_ret ?_ | refine pwp_exit ?_ | refine then_n ?_ | refine then_r ?_ | refine then_e ?_ | refine then_g ?_ | refine inB_n ?_ | refine inB_r ?_ | refine inB_e ?_ | refine inB_o rfl ?_ | refine inB_g ?_ | refine Leads.go (by assumption) ?_) | (with_reducible refine region_k fun K hK => ?_; simp [*]) | (with_reducible refine region_drawT_k mixedO (by decide +kernel) fun K hK => ?_; simp [*]) | (with_reducible refine region_tame_a mixedO (by decide +kernel) fun K hK => ?_; simp [*, Low, isLoadB, isTameB, List.range_succ, List.range']) | (with_reducible refine cond_t ?_ ?_; (focus (simp [*]; done))) | (with_reducible refine cond_f ?_ ?_; (focus (simp [*]; done))))
    simp [*, fltD]
end Go.Pv
-- ZpvTameA ZpvDrawT
namespace Go.Pv
open Go.Proofs
attribute [-simp] eLen UInt8.ofNat_add

/-! ### Floats by their bits -/
def nanB (x : Nat) : Bool := !Op.floatEq .f64 x x
def plainF (x : Nat) : Nat := if nanB x then 9221120237041090560 else if Op.floatEq .f64 x 0 then 0 else x
set_option maxHeartbeats 4000000 in
set_option maxRecDepth 100000 in
theorem IsNaN_spec (x : Nat) (H : Heap) : PCalls Try.prog 110 [.val (.float .f64 x)] H fun d H' => d = .val (.bool (nanB x)) ∧ H' = H := by
  refine PCalls.of_pwp Try.call110 Try.func110 rfl (by simp [Try.ntmps110]) ?_
  rw [Try.ntmps110]
  repeat (first | (with_reducible first | refine seq_k fun K hK => ?_ | refine pwp_block ?_ | refine pwp_skip ?_ | refine pwp_ret ?_ | refine pwp_exit ?_ | refine then_n ?_ | refine then_r ?_ | refine then_e ?_ | refine then_g ?_ | refine inB_n ?_ | refine inB_r ?_ | refine inB_e ?_ | refine inB_o rfl ?_ | refine inB_g ?_ | refine Leads.go (by assumption) ?_) | (with_reducible refine region_k fun K hK => ?_; simp [*]) | (with_reducible refine region_drawT_k mixedO (by decide +kernel) fun K hK => ?_; simp [*]) | (with_reducible refine region_tame_a mixedO (by decide +kernel) fun K hK => ?_; simp [*, Low, isLoadB, isTameB, List.range_succ, List.range']) | (with_reducible refine cond_t ?_ ?_; (focus (simp [*]; done))) | (with_reducible refine cond_f ?_ ?_; (focus (simp [*]; done))))
  simp [*, nanB]
set_option maxHeartbeats 4000000 in
set_option maxRecDepth 100000 in
theorem fPlain_spec (x : Nat) (H : Heap) : PCalls Try.prog 109 [.val (.float .f64 x)] H fun d H' => d = .val (.float .f64 (plainF x)) ∧ H' = H := by
  refine PCalls.of_pwp Try.call109 Try.func109 rfl (by simp [Try.ntmps109]) ?_
  rw [Try.ntmps109]
  repeat (first | (with_reducible first | refine seq_k fun K hK => ?_ | refine pwp_block ?_ | refine pwp_skip ?_ | refine pwp_ret ?_ | refine pwp_exit ?_ | refine then_n ?_ | refine then_r ?_ | refine then_e ?_ | refine then_g ?_ | refine inB_n ?_ | refine inB_r ?_ | refine inB_e ?_ | refine inB_o rfl ?_ | refine inB_g ?_ | refine Leads.go (by assumption) ?_) | (with_reducible refine region_k fun K hK => ?_; simp [*]) | (with_reducible refine region_drawT_k mixedO (by decide +kernel) fun K hK => ?_; simp [*]) | (with_reducible refine region_tame_a mixedO (by decide +kernel) fun K hK => ?_; simp [*, Low, isLoadB, isTameB, List.range_succ, List.range']) | (with_reducible refine cond_t ?_ ?_; (focus (simp [*]; done))) | (with_reducible refine cond_f ?_ ?_; (focus (simp [*]; done))))
  refine PCalls.mono (IsNaN_spec x _) ?_
  intro d3 H3 hd3
  rw [hd3.1, hd3.2]
  clear hd3
  try simp [*]
  cases hn : nanB x with
  | true =>
    have hp : plainF x = 9221120237041090560 := by rw [plainF, hn]; rfl
    try simp [*]
    repeat (first | (with_reducible first | refine seq_k fun K hK => ?_ | refine pwp_block ?_ | refine pwp_skip ?_ | refine pwp_ret ?_ | refine pwp_exit ?_ | refine then_n ?_ | refine then_r ?_ | refine then_e ?_ | refine then_g ?_ | refine inB_n ?_ | refine inB_r ?_ | refine inB_e ?_ | refine inB_o rfl ?_ | refine inB_g ?_ | refine Leads.go (by assumption) ?_) | (with_reducible refine region_k fun K hK => ?_; simp [*]) | (with_reducible refine region_drawT_k mixedO (by decide +kernel) fun K hK => ?_; simp [*]) | (with_reducible refine region_tame_a mixedO (by decide +kernel) fun K hK => ?_; simp [*, Low, isLoadB, isTameB, List.range_succ, List.range']) | (with_reducible refine cond_t ?_ ?_; (focus (simp [*]; done))) | (with_reducible refine cond_f ?_ ?_; (focus (simp [*]; done))))
    refine PCalls.mono (frombits_spec 9221120237041090560 _) ?_
    intro d3 H3 hd3
    rw [hd3.1, hd3.2]
    clear hd3
    try simp [*]
    try simp [*]
    repeat (first | (with_reducible first | refine seq_k fun K hK => ?_ | refine pwp_block ?_ | refine pwp_skip ?_ | refine pwp_ret ?_ | refine pwp_exit ?_ | refine then_n ?_ | refine then_r ?_ | refine then_e ?_ | refine then_g ?_ | refine inB_n ?_ | refine inB_r ?_ | refine inB_e ?_ | refine inB_o rfl ?_ | refine inB_g ?_ | refine Leads.go (by assumption) ?_) | (with_reducible refine region_k fun K hK => ?_; simp [*]) | (with_reducible refine region_drawT_k mixedO (by decide +kernel) fun K hK => ?_; simp [*]) | (with_reducible refine region_tame_a mixedO (by decide +kernel) fun K hK => ?_; simp [*, Low, isLoadB, isTameB, List.range_succ, List.range']) | (with_reducible refine cond_t ?_ ?_; (focus (simp [*]; done))) | (with_reducible refine cond_f ?_ ?_; (focus (simp [*]; done))))
    simp [*]
  | false =>
    cases hz : Op.floatEq .f64 x 0 with
    | true =>
      have hp : plainF x = 0 := by rw [plainF, hn, hz]; rfl
      try simp [*]
      repeat (first | (with_reducible first | refine seq_k fun K hK => ?_ | refine pwp_block ?_ | refine pwp_skip ?_ | refine pwp_ret ?_ | refine pwp_exit ?_ | refine then_n ?_ | refine then_r ?_ | refine then_e ?_ | refine then_g ?_ | refine inB_n ?_ | refine inB_r ?_ | refine inB_e ?_ | refine inB_o rfl ?_ | refine inB_g ?_ | refine Leads.go (by assumption) ?_) | (with_reducible refine region_k fun K hK => ?_; simp [*]) | (with_reducible refine region_drawT_k mixedO (by decide +kernel) fun K hK => ?_; simp [*]) | (with_reducible refine region_tame_a mixedO (by decide +kernel) fun K hK => ?_; simp [*, Low, isLoadB, isTameB, List.range_succ, List.range']) | (with_reducible refine cond_t ?_ ?_; (focus (simp [*]; done))) | (with_reducible refine cond_f ?_ ?_; (focus (simp [*]; done))))
      simp [*]
    | false =>
      have hp : plainF x = x := by rw [plainF, hn, hz]; rfl
      try simp [*]
      repeat (first | (with_reducible first | refine seq_k fun K hK => ?_ | refine pwp_block ?_ | refine pwp_skip ?_ | refine pwp_ret ?_ | refine pwp_exit ?_ | refine then_n ?_ | refine then_r ?_ | refine then_e ?_ | refine then_g ?_ | refine inB_n ?_ | refine inB_r ?_ | refine inB_e ?_ | refine inB_o rfl ?_ | refine inB_g ?_ | refine Leads.go (by assumption) ?_) | (with_reducible refine region_k fun K hK => ?_; simp [*]) | (with_reducible refine region_drawT_k mixedO (by decide +kernel) fun K hK => ?_; simp [*]) | (with_reducible refine region_tame_a mixedO (by decide +kernel) fun K hK => ?_; simp [*, Low, isLoadB, isTameB, List.range_succ, List.range']) | (with_reducible refine cond_t ?_ ?_; (focus (simp [*]; done))) | (with_reducible refine cond_f ?_ ?_; (focus (simp [*]; done))))
      simp [*]
set_option maxHeartbeats 4000000 in
def gtF (x y : Nat) : Bool := FloatKind.f64.format.order x y == some .gt
def ltF (x y : Nat) : Bool := FloatKind.f64.format.order x y == some .lt
def orderF (x y : Nat) : Int :=
  if nanB x && nanB y then 0 else if nanB x then 1 else if nanB y then -1 else if gtF x y then 1 else if ltF x y then -1 else 0
set_option maxHeartbeats 4000000 in
set_option maxRecDepth 100000 in
theorem fOrder_spec (x y : Nat) (H : Heap) : PCalls Try.prog 105 [.val (.float .f64 x), .val (.float .f64 y)] H fun d H' => d = .val (.int .i64 (orderF x y)) ∧ H' = H := by
  refine PCalls.of_pwp Try.call105 Try.func105 rfl (by simp [Try.ntmps105]) ?_
  rw [Try.ntmps105]
  obtain ⟨ans, hans⟩ : ∃ a, orderF x y = a := ⟨_, rfl⟩
  rw [hans]
  have hg : (FloatKind.f64.format.order x y == some .gt) = gtF x y := rfl
  have hl : (FloatKind.f64.format.order x y == some .lt) = ltF x y := rfl
  repeat (first | (with_reducible first | refine seq_k fun K hK => ?_ | refine pwp_block ?_ | refine pwp_skip ?_ | refine pwp_ret ?_ | refine pwp_exit ?_ | refine then_n ?_ | refine then_r ?_ | refine then_e ?_ | refine then_g ?_ | refine inB_n ?_ | refine inB_r ?_ | refine inB_e ?_ | refine inB_o rfl ?_ | refine inB_g ?_ | refine Leads.go (by assumption) ?_) | (with_reducible refine region_k fun K hK => ?_; simp [*]) | (with_reducible refine region_drawT_k mixedO (by decide +kernel) fun K hK => ?_; simp [*]) | (with_reducible refine region_tame_a mixedO (by decide +kernel) fun K hK => ?_; simp [*, Low, isLoadB, isTameB, List.range_succ, List.range']) | (with_reducible refine cond_t ?_ ?_; (focus (simp [*]; done))) | (with_reducible refine cond_f ?_ ?_; (focus (simp [*]; done))))
  refine PCalls.mono (IsNaN_spec x _) ?_
  intro d3 H3 hd3
  rw [hd3.1, hd3.2]
  clear hd3
  try simp [*]
  repeat (first | (with_reducible first | refine seq_k fun K hK => ?_ | refine pwp_block ?_ | refine pwp_skip ?_ | refine pwp_ret ?_ | refine pwp_exit ?_ | refine then_n ?_ | refine then_r ?_ | refine then_e ?_ | refine then_g ?_ | refine inB_n ?_ | refine inB_r ?_ | refine inB_e ?_ | refine inB_o rfl ?_ | refine inB_g ?_ | refine Leads.go (by assumption) ?_) | (with_reducible refine region_k fun K hK => ?_; simp [*]) | (with_reducible refine region_drawT_k mixedO (by decide +kernel) fun K hK => ?_; simp [*]) | (with_reducible refine region_tame_a mixedO (by decide +kernel) fun K hK => ?_; simp [*, Low, isLoadB, isTameB, List.range_succ, List.range']) | (with_reducible refine cond_t ?_ ?_; (focus (simp [*]; done))) | (with_reducible refine cond_f ?_ ?_; (focus (simp [*]; done))))
  refine PCalls.mono (IsNaN_spec y _) ?_
  intro d3 H3 hd3
  rw [hd3.1, hd3.2]
  clear hd3
  try simp [*]
  cases hx : nanB x with
  | true =>
    cases hy : nanB y with
    | true =>
      have hA : ans = 0 := by rw [← hans, orderF, hx, hy]; rfl
      clear hans
      try simp [*]
      repeat (first | (with_reducible first | refine seq_k fun K hK => ?_ | refine pwp_block ?_ | refine pwp_skip ?_ | refine pwp_ret ?_ | refine pwp_exit ?_ | refine then_n ?_ | refine then_r ?_ | refine then_e ?_ | refine then_g ?_ | refine inB_n ?_ | refine inB_r ?_ | refine inB_e ?_ | refine inB_o rfl ?_ | refine inB_g ?_ | refine Leads.go (by assumption) ?_) | (with_reducible refine region_k fun K hK => ?_; simp [*]) | (with_reducible refine region_drawT_k mixedO (by decide +kernel) fun K hK => ?_; simp [*]) | (with_reducible refine region_tame_a mixedO (by decide +kernel) fun K hK => ?_; simp [*, Low, isLoadB, isTameB, List.range_succ, List.range']) | (with_reducible refine cond_t ?_ ?_; (focus (simp [*]; done))) | (with_reducible refine cond_f ?_ ?_; (focus (simp [*]; done))))
      simp [*]
    | false =>
      have hA : ans = 1 := by rw [← hans, orderF, hx, hy]; rfl
      clear hans
      try simp [*]
      repeat (first | (with_reducible first | refine seq_k fun K hK => ?_ | refine pwp_block ?_ | refine pwp_skip ?_ | refine pwp_ret ?_ | refine pwp_exit ?_ | refine then_n ?_ | refine then_r ?_ | refine then_e ?_ | refine then_g ?_ | refine inB_n ?_ | refine inB_r ?_ | refine inB_e ?_ | refine inB_o rfl ?_ | refine inB_g ?_ | refine Leads.go (by assumption) ?_) | (with_reducible refine region_k fun K hK => ?_; simp [*]) | (with_reducible refine region_drawT_k mixedO (by decide +kernel) fun K hK => ?_; simp [*]) | (with_reducible refine region_tame_a mixedO (by decide +kernel) fun K hK => ?_; simp [*, Low, isLoadB, isTameB, List.range_succ, List.range']) | (with_reducible refine cond_t ?_ ?_; (focus (simp [*]; done))) | (with_reducible refine cond_f ?_ ?_; (focus (simp [*]; done))))
      simp [*]
  | false =>
    cases hy : nanB y with
    | true =>
      have hA : ans = -1 := by rw [← hans, orderF, hx, hy]; rfl
      clear hans
      try simp [*]
      repeat (first | (with_reducible first | refine seq_k fun K hK => ?_ | refine pwp_block ?_ | refine pwp_skip ?_ | refine pwp_ret ?_ | refine pwp_exit ?_ | refine then_n ?_ | refine then_r ?_ | refine then_e ?_ | refine then_g ?_ | refine inB_n ?_ | refine inB_r ?_ | refine inB_e ?_ | refine inB_o rfl ?_ | refine inB_g ?_ | refine Leads.go (by assumption) ?_) | (with_reducible refine region_k fun K hK => ?_; simp [*]) | (with_reducible refine region_drawT_k mixedO (by decide +kernel) fun K hK => ?_; simp [*]) | (with_reducible refine region_tame_a mixedO (by decide +kernel) fun K hK => ?_; simp [*, Low, isLoadB, isTameB, List.range_succ, List.range']) | (with_reducible refine cond_t ?_ ?_; (focus (simp [*]; done))) | (with_reducible refine cond_f ?_ ?_; (focus (simp [*]; done))))
      simp [*]
    | false =>
      cases hgv : gtF x y with
      | true =>
        have hA : ans = 1 := by rw [← hans, orderF, hx, hy, hgv]; rfl
        clear hans
        try simp [*]
        repeat (first | (with_reducible first | refine seq_k fun K hK => ?_ | refine pwp_block ?_ | refine pwp_skip ?_ | refine pwp_ret ?_ | refine pwp_exit ?_ | refine then_n ?_ | refine then_r ?_ | refine then_e ?_ | refine then_g ?_ | refine inB_n ?_ | refine inB_r ?_ | refine inB_e ?_ | refine inB_o rfl ?_ | refine inB_g ?_ | refine Leads.go (by assumption) ?_) | (with_reducible refine region_k fun K hK => ?_; simp [*]) | (with_reducible refine region_drawT_k mixedO (by decide +kernel) fun K hK => ?_; simp [*]) | (with_reducible refine region_tame_a mixedO (by decide +kernel) fun K hK => ?_; simp [*, Low, isLoadB, isTameB, List.range_succ, List.range']) | (with_reducible refine cond_t ?_ ?_; (focus (simp [*]; done))) | (with_reducible refine cond_f ?_ ?_; (focus (simp [*]; done))))
        simp [*]
      | false =>
        cases hlv : ltF x y with
        | true =>
          have hA : ans = -1 := by rw [← hans, orderF, hx, hy, hgv, hlv]; rfl
          clear hans
          try simp [*]
          repeat (first | (with_reducible first | refine seq_k fun K hK => ?_ | refine pwp_block ?_ | refine pwp_skip ?_ | refine pwp_ret ?_ | refine pwp_exit ?_ | refine then_n ?_ | refine then_r ?_ | refine then_e ?_ | refine then_g ?_ | refine inB_n ?_ | refine inB_r ?_ | refine inB_e ?_ | refine inB_o rfl ?_ | refine inB_g ?_ | refine Leads.go (by assumption) ?_) | (with_reducible refine region_k fun K hK => ?_; simp [*]) | (with_reducible refine region_drawT_k mixedO (by decide +kernel) fun K hK => ?_; simp [*]) | (with_reducible refine region_tame_a mixedO (by decide +kernel) fun K hK => ?_; simp [*, Low, isLoadB, isTameB, List.range_succ, List.range']) | (with_reducible refine cond_t ?_ ?_; (focus (simp [*]; done))) | (with_reducible refine cond_f ?_ ?_; (focus (simp [*]; done))))
          simp [*]
        | false =>
          have hA : ans = 0 := by rw [← hans, orderF, hx, hy, hgv, hlv]; rfl
          clear hans
          try simp [*]
          repeat (first | (with_reducible first | refine seq_k fun K hK => ?_ | refine pwp_block ?_ | refine pwp_skip ?_ | refine pwp_ret ?_ | refine pwp_exit ?_ | refine then_n ?_ | refine then_r ?_ | refine then_e ?_ | refine then_g ?_ | refine inB_n ?_ | refine inB_r ?_ | refine inB_e ?_ | refine inB_o rfl ?_ | refine inB_g ?_ | refine Leads.go (by assumption) ?_) | (with_reducible refine region_k fun K hK => ?_; simp [*]) | (with_reducible refine region_drawT_k mixedO (by decide +kernel) fun K hK => ?_; simp [*]) | (with_reducible refine region_tame_a mixedO (by decide +kernel) fun K hK => ?_; simp [*, Low, isLoadB, isTameB, List.range_succ, List.range']) | (with_reducible refine cond_t ?_ ?_; (focus (simp [*]; done))) | (with_reducible refine cond_f ?_ ?_; (focus (simp [*]; done))))
          simp [*]
theorem lt_gt (x y : Nat) (h : ltF x y = true) : gtF x y = false := by
  simp only [ltF, gtF, beq_iff_eq] at *
  rw [h]; rfl
set_option maxHeartbeats 4000000 in
def hexT : By := [48, 49, 50, 51, 52, 53, 54, 55, 56, 57, 97, 98, 99, 100, 101, 102, 65, 66, 67, 68, 69, 70]
def nibF (n k : Nat) : UInt8 := hexT.getD (n / 16 ^ (15 - k) % 16) 0
def textF (n : Nat) : By := (List.range 16).map (nibF n)
theorem shr_nib (n k : Nat) (hk : k < 16) : (n : Int).fdiv (2 ^ min (60 - 4 * (k : Int)).toNat IntKind.u64.bits) = ((n / 16 ^ (15 - k) : Nat) : Int) := by
  have e1 : (60 - 4 * (k : Int)).toNat = 4 * (15 - k) := by omega
  have e2 : min (4 * (15 - k)) IntKind.u64.bits = 4 * (15 - k) := by rw [show IntKind.u64.bits = 64 from rfl]; omega
  have e3 : (2 : Int) ^ (4 * (15 - k)) = ((16 ^ (15 - k) : Nat) : Int) := by rw [Int.pow_mul]; norm_cast
  rw [e1, e2, e3, Int.fdiv_eq_ediv_of_nonneg _ (Int.natCast_nonneg _)]
  norm_cast
theorem and15 (q : Nat) : IntKind.u64.wrap ((q % 2 ^ IntKind.u64.bits &&& 15 % 2 ^ IntKind.u64.bits : Nat) : Int) = ((q % 16 : Nat) : Int) := by
  have e1 : (2 : Nat) ^ IntKind.u64.bits = 18446744073709551616 := rfl
  rw [e1]
  have h : ∀ m : Nat, m &&& (15 % 18446744073709551616) = m % 16 := fun m => by
    have := Nat.and_two_pow_sub_one_eq_mod m 4
    simpa using this
  rw [h, wrapU _ (by omega) (by omega)]
  congr 1
  omega
theorem nib_at (n k : Nat) : byteAt [48, 49, 50, 51, 52, 53, 54, 55, 56, 57, 97, 98, 99, 100, 101, 102] (n / 16 ^ (15 - k) % 16) = ((nibF n k).toNat : Int) := by
  have key : ∀ m : Nat, m < 16 → byteAt [48, 49, 50, 51, 52, 53, 54, 55, 56, 57, 97, 98, 99, 100, 101, 102] m = ((hexT.getD m 0).toNat : Int) := by decide +kernel
  exact key _ (Nat.mod_lt _ (by decide))
theorem nib_sl (n k m : Nat) (hm : n / 16 ^ (15 - k) % 16 = m) : (([48, 49, 50, 51, 52, 53, 54, 55, 56, 57, 97, 98, 99, 100, 101, 102] : By).take (m + 1)).drop m = [nibF n k] := by
  have key : ∀ m : Nat, m < 16 → (([48, 49, 50, 51, 52, 53, 54, 55, 56, 57, 97, 98, 99, 100, 101, 102] : By).take (m + 1)).drop m = [hexT.getD m 0] := by decide +kernel
  rw [← hm]
  exact key _ (Nat.mod_lt _ (by decide))
end Go.Pv
