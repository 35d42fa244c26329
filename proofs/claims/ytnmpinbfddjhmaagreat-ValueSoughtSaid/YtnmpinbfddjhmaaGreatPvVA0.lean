/- A part of the proof: functions of the program, walked, or what operations come to. -/
import Derived.Test.YtnmpinbfddjhmaaGreatPvV6
namespace Go.Pv
open Go.Proofs
attribute [-simp] eLen UInt8.ofNat_add
/-- What is left behind a sign. -/
def unsign (l : By) : By := if preB l [45] then l.drop 1 else l
theorem sized_some (l : By) : (sizedM l).isSome = digsB (unsign l) := by
  unfold sizedM
  show (if digsB (unsign l) = true then _ else none).isSome = _
  cases digsB (unsign l) <;> rfl
theorem preB_one (l : By) (c : UInt8) : preB l [c] = match l with | [] => false | x :: _ => x == c := by
  cases l with
  | nil => simp [preB]
  | cons x l => simp [preB, List.take_succ_cons]; rfl
inductive Shp : Bool → By → Prop
  | zero : Shp false []
  | num (b : Bool) (x : UInt8) (ds : By) (h1 : 49 ≤ x.toNat) (h2 : x.toNat ≤ 57) : Shp b (x :: ds)
theorem dropWhile_head (p : UInt8 → Bool) (r : By) (x : UInt8) (t : By) (h : r.dropWhile p = x :: t) : p x = false ∧ x ∈ r := by
  induction r with
  | nil => cases h
  | cons y r ih =>
    rw [List.dropWhile_cons] at h
    split at h
    · obtain ⟨h1, h2⟩ := ih h; exact ⟨h1, by simp [h2]⟩
    · rename_i hq; cases h; exact ⟨by simpa using hq, by simp⟩
theorem sizedM_shape {l : By} {b : Bool} {ds : By} (h : sizedM l = some (b, ds)) : Shp b ds := by
  have hs : (sizedM l).isSome = true := by rw [h]; rfl
  rw [sized_some] at hs
  have hz : sizedM l = some (preB l [45] && !((unsign l).dropWhile (· == 48)).isEmpty, (unsign l).dropWhile (· == 48)) := by
    show (if digsB (unsign l) = true then _ else none) = _
    rw [if_pos hs]; rfl
  rw [hz] at h
  simp only [Option.some.injEq, Prod.mk.injEq] at h
  obtain ⟨hb, hd⟩ := h
  rw [hd] at hb
  cases ds with
  | nil => simp at hb; subst hb; exact .zero
  | cons x ds =>
    obtain ⟨k1, k2⟩ := dropWhile_head _ _ _ _ hd
    simp only [digsB, Bool.and_eq_true] at hs
    have k3 := List.all_eq_true.1 hs.2 x k2
    simp only [isDig, decide_eq_true_eq] at k3
    have k4 : ¬ x = 48 := by simpa using k1
    have k5 : x.toNat ≠ 48 := fun q => k4 (UInt8.toNat_inj.1 (by rw [q]; rfl))
    exact .num b x ds (by omega) (by omega)
end Go.Pv
-- ZpvTameA ZpvDrawT
namespace Go.Pv
open Go.Proofs
attribute [-simp] eLen UInt8.ofNat_add

/-! ### The document's whole numbers -/
set_option maxRecDepth 100000 in
theorem rdigit_spec (c : UInt8) (H : Heap) : PCalls Tryz.prog 47 [.val (.int .u8 (c.toNat : Nat))] H fun d H' => d = .val (.bool (isDig c)) ∧ H' = H := of_bytes mixedO (by kernel_rfl) c H
set_option maxHeartbeats 4000000 in
set_option maxRecDepth 100000 in
theorem rValid_spec (l : By) (hl : l.length ≤ 100000) (H : Heap) : PCalls Tryz.prog 29 [sD l] H fun d H' => d = .val (.bool (sizedM l).isSome) ∧ H' = H := by
  by_cases hl0 : l = []
  · subst hl0
    exact PCalls.alone (vs := [.string ⟨#[]⟩]) (runFz_spec (n := 60) mixedO (by kernel_rfl)) H
  refine PCalls.of_pwp Tryz.call29 Tryz.func29 rfl (by simp [Tryz.ntmps29]) ?_
  rw [Tryz.ntmps29]
  rw [sized_some]
  obtain ⟨r, hr⟩ : ∃ r, unsign l = r := ⟨_, rfl⟩
  have hrl : r.length ≤ 100000 := by
    rw [← hr]; unfold unsign; split
    · simp; omega
    · exact hl
  rw [hr]
  have hp := preB_one l 45
  rcases l with _ | ⟨c, t⟩
  case' nil => exact absurd rfl hl0
  case' cons =>
    by_cases hc : (c.toNat : Int) = 45
    case' pos =>
      have hre : r = t := by
        have : c = 45 := UInt8.toNat_inj.1 (by have : (45 : UInt8).toNat = 45 := rfl; omega)
        rw [← hr]; unfold unsign; rw [hp, this]; simp
      subst hre
      have bc : byteAt (c :: r) 0 = 45 := (byteAt_of rfl).trans hc
      have hz : (1 : Int) ≤ (r.length : Int) + 1 := by omega
      clear hr hp hc
      repeat (first | (with_reducible first | refine seq_k fun K hK => ?_ | refine pwp_block ?_ | refine pwp_skip ?_ | refine pwp_ret ?_ | refine pwp_exit ?_ | refine then_n ?_ | refine then_r ?_ | refine then_e ?_ | refine then_g ?_ | refine inB_n ?_ | refine inB_r ?_ | refine inB_e ?_ | refine inB_o rfl ?_ | refine inB_g ?_ | refine Leads.go (by assumption) ?_) | (with_reducible refine region_k fun K hK => ?_; simp [*]) | (with_reducible refine region_drawT_k mixedO (by decide +kernel) fun K hK => ?_; simp [*]) | (with_reducible refine region_tame_a mixedO (by decide +kernel) fun K hK => ?_; simp [*, Low, isLoadB, isTameB, List.range_succ, List.range']) | (with_reducible refine cond_t ?_ ?_; (focus (simp [*]; done))) | (with_reducible refine cond_f ?_ ?_; (focus (simp [*]; done))))
    case' neg =>
      have hre : r = c :: t := by
        have : ¬ c = 45 := fun q => hc (by rw [q]; rfl)
        rw [← hr]; unfold unsign; rw [hp]; simp [this]
      have bc : byteAt (c :: t) 0 = (c.toNat : Int) := byteAt_of rfl
      have hc2 : ¬ c.toNat = 45 := by omega
      clear hr hp
      repeat (first | (with_reducible first | refine seq_k fun K hK => ?_ | refine pwp_block ?_ | refine pwp_skip ?_ | refine pwp_ret ?_ | refine pwp_exit ?_ | refine then_n ?_ | refine then_r ?_ | refine then_e ?_ | refine then_g ?_ | refine inB_n ?_ | refine inB_r ?_ | refine inB_e ?_ | refine inB_o rfl ?_ | refine inB_g ?_ | refine Leads.go (by assumption) ?_) | (with_reducible refine region_k fun K hK => ?_; simp [*]) | (with_reducible refine region_drawT_k mixedO (by decide +kernel) fun K hK => ?_; simp [*]) | (with_reducible refine region_tame_a mixedO (by decide +kernel) fun K hK => ?_; simp [*, Low, isLoadB, isTameB, List.range_succ, List.range']) | (with_reducible refine cond_t ?_ ?_; (focus (simp [*]; done))) | (with_reducible refine cond_f ?_ ?_; (focus (simp [*]; done))))
      clear bc hc hc2
      rw [← hre]
      clear hre
  all_goals
    have hrl' := hrl
    refine pwp_for (r.length) (fun k st => st.env.n = 28 ∧ st.df = [] ∧ st.H = H ∧ st.env.get 0 = sD r ∧ st.env.get 3 = .val (.int .i64 k) ∧ ((r.take k).all isDig = true)) ⟨by first | (simp; done) | (simp [*]; done), rfl, by first | rfl | simp, by first | (simp; done) | (simp [*]; done), by first | (simp; done) | (simp [*]; done), by first | (simp; done) | (simp [*]; done)⟩ ?_ ?_
    · rintro k ⟨E, Hx, df⟩ hk ⟨en, edf, eH, e0, e3, eP⟩
      simp only at en edf eH e0 e3
      subst edf; replace eH := eH.symm; subst eH
      have hki : (k : Int) < ((r.length : Nat) : Int) := by omega
      have hkw := wrapSucc k (by omega)
      obtain ⟨x, hx⟩ : ∃ x, r[k]? = some x := ⟨_, List.getElem?_eq_getElem (by omega)⟩
      have bx : byteAt r k = (x.toNat : Int) := byteAt_of hx
      have lx := toNat_lt x
      have hs := all_take_succ isDig r k x (by assumption)
      rw [eP, Bool.true_and] at hs
      repeat (first | (with_reducible first | refine seq_k fun K hK => ?_ | refine pwp_block ?_ | refine pwp_skip ?_ | refine pwp_ret ?_ | refine pwp_exit ?_ | refine then_n ?_ | refine then_r ?_ | refine then_e ?_ | refine then_g ?_ | refine inB_n ?_ | refine inB_r ?_ | refine inB_e ?_ | refine inB_o rfl ?_ | refine inB_g ?_ | refine Leads.go (by assumption) ?_) | (with_reducible refine region_k fun K hK => ?_; simp [*]) | (with_reducible refine region_drawT_k mixedO (by decide +kernel) fun K hK => ?_; simp [*]) | (with_reducible refine region_tame_a mixedO (by decide +kernel) fun K hK => ?_; simp [*, Low, isLoadB, isTameB, List.range_succ, List.range']) | (with_reducible refine cond_t ?_ ?_; (focus (simp [*]; done))) | (with_reducible refine cond_f ?_ ?_; (focus (simp [*]; done))))
      refine PCalls.mono (rdigit_spec x _) ?_
      intro d3 H3 hd3
      rw [hd3.1, hd3.2]
      clear hd3
      try simp [*]
      cases hd : isDig x with
      | false =>
        have h5 := all_not isDig r k x (by assumption) hd
        try simp [*]
        repeat (first | (with_reducible first | refine seq_k fun K hK => ?_ | refine pwp_block ?_ | refine pwp_skip ?_ | refine pwp_ret ?_ | refine pwp_exit ?_ | refine then_n ?_ | refine then_r ?_ | refine then_e ?_ | refine then_g ?_ | refine inB_n ?_ | refine inB_r ?_ | refine inB_e ?_ | refine inB_o rfl ?_ | refine inB_g ?_ | refine Leads.go (by assumption) ?_) | (with_reducible refine region_k fun K hK => ?_; simp [*]) | (with_reducible refine region_drawT_k mixedO (by decide +kernel) fun K hK => ?_; simp [*]) | (with_reducible refine region_tame_a mixedO (by decide +kernel) fun K hK => ?_; simp [*, Low, isLoadB, isTameB, List.range_succ, List.range']) | (with_reducible refine cond_t ?_ ?_; (focus (simp [*]; done))) | (with_reducible refine cond_f ?_ ?_; (focus (simp [*]; done))))
        simp [*, digsB]
      | true =>
        rw [hd] at hs
        try simp [*]
        repeat (first | (with_reducible first | refine seq_k fun K hK => ?_ | refine pwp_block ?_ | refine pwp_skip ?_ | refine pwp_ret ?_ | refine pwp_exit ?_ | refine then_n ?_ | refine then_r ?_ | refine then_e ?_ | refine then_g ?_ | refine inB_n ?_ | refine inB_r ?_ | refine inB_e ?_ | refine inB_o rfl ?_ | refine inB_g ?_ | refine Leads.go (by assumption) ?_) | (with_reducible refine region_k fun K hK => ?_; simp [*]) | (with_reducible refine region_drawT_k mixedO (by decide +kernel) fun K hK => ?_; simp [*]) | (with_reducible refine region_tame_a mixedO (by decide +kernel) fun K hK => ?_; simp [*, Low, isLoadB, isTameB, List.range_succ, List.range']) | (with_reducible refine cond_t ?_ ?_; (focus (simp [*]; done))) | (with_reducible refine cond_f ?_ ?_; (focus (simp [*]; done))))
        simp [*]
    · rintro ⟨E, Hx, df⟩ ⟨en, edf, eH, e0, e3, eP⟩
      simp only at en edf eH e0 e3
      subst edf; replace eH := eH.symm; subst eH
      rw [List.take_length] at eP
      repeat (first | (with_reducible first | refine seq_k fun K hK => ?_ | refine pwp_block ?_ | refine pwp_skip ?_ | refine pwp_ret ?_ | refine pwp_exit ?_ | refine then_n ?_ | refine then_r ?_ | refine then_e ?_ | refine then_g ?_ | refine inB_n ?_ | refine inB_r ?_ | refine inB_e ?_ | refine inB_o rfl ?_ | refine inB_g ?_ | refine Leads.go (by assumption) ?_) | (with_reducible refine region_k fun K hK => ?_; simp [*]) | (with_reducible refine region_drawT_k mixedO (by decide +kernel) fun K hK => ?_; simp [*]) | (with_reducible refine region_tame_a mixedO (by decide +kernel) fun K hK => ?_; simp [*, Low, isLoadB, isTameB, List.range_succ, List.range']) | (with_reducible refine cond_t ?_ ?_; (focus (simp [*]; done))) | (with_reducible refine cond_f ?_ ?_; (focus (simp [*]; done))))
      simp [*, digsB]
      cases r <;> simp
set_option maxHeartbeats 8000000 in
set_option maxRecDepth 100000 in
theorem rPlain_spec (l : By) (hl : l.length ≤ 100000) (H : Heap) : PCalls Tryz.prog 28 [sD l] H fun d H' => d = sD (plainM l) ∧ H' = H := by
  refine PCalls.of_pwp Tryz.call28 Tryz.func28 rfl (by simp [Tryz.ntmps28]) ?_
  rw [Tryz.ntmps28]
  obtain ⟨ans, hans⟩ : ∃ a, plainM l = a := ⟨_, rfl⟩
  rw [hans]
  repeat (first | (with_reducible first | refine seq_k fun K hK => ?_ | refine pwp_block ?_ | refine pwp_skip ?_ | refine pwp_ret ?_ | refine pwp_exit ?_ | refine then_n ?_ | refine then_r ?_ | refine then_e ?_ | refine then_g ?_ | refine inB_n ?_ | refine inB_r ?_ | refine inB_e ?_ | refine inB_o rfl ?_ | refine inB_g ?_ | refine Leads.go (by assumption) ?_) | (with_reducible refine region_k fun K hK => ?_; simp [*]) | (with_reducible refine region_drawT_k mixedO (by decide +kernel) fun K hK => ?_; simp [*]) | (with_reducible refine region_tame_a mixedO (by decide +kernel) fun K hK => ?_; simp [*, Low, isLoadB, isTameB, List.range_succ, List.range']) | (with_reducible refine cond_t ?_ ?_; (focus (simp [*]; done))) | (with_reducible refine cond_f ?_ ?_; (focus (simp [*]; done))))
  refine PCalls.mono (rValid_spec l hl _) ?_
  intro d3 H3 hd3
  rw [hd3.1, hd3.2]
  clear hd3
  try simp [*]
  cases hv : (sizedM l).isSome with
  | false =>
    have hnn : sizedM l = none := by
      cases hq : sizedM l with
      | none => rfl
      | some q => rw [hq] at hv; cases hv
    have hp : ans = [] := by rw [← hans]; unfold plainM; rw [hnn]
    clear hans
    have hvn : (sizedM l).isNone = true := by rw [hnn]; rfl
    clear hnn
    try simp [*]
    repeat (first | (with_reducible first | refine seq_k fun K hK => ?_ | refine pwp_block ?_ | refine pwp_skip ?_ | refine pwp_ret ?_ | refine pwp_exit ?_ | refine then_n ?_ | refine then_r ?_ | refine then_e ?_ | refine then_g ?_ | refine inB_n ?_ | refine inB_r ?_ | refine inB_e ?_ | refine inB_o rfl ?_ | refine inB_g ?_ | refine Leads.go (by assumption) ?_) | (with_reducible refine region_k fun K hK => ?_; simp [*]) | (with_reducible refine region_drawT_k mixedO (by decide +kernel) fun K hK => ?_; simp [*]) | (with_reducible refine region_tame_a mixedO (by decide +kernel) fun K hK => ?_; simp [*, Low, isLoadB, isTameB, List.range_succ, List.range']) | (with_reducible refine cond_t ?_ ?_; (focus (simp [*]; done))) | (with_reducible refine cond_f ?_ ?_; (focus (simp [*]; done))))
    simp [*]
  | true =>
    have hv2 := hv
    rw [sized_some] at hv2
    have hsz : sizedM l = some (preB l [45] && !((unsign l).dropWhile (· == 48)).isEmpty, (unsign l).dropWhile (· == 48)) := by
      show (if digsB (unsign l) = true then _ else none) = _
      rw [if_pos hv2]; rfl
    have hvn : (sizedM l).isNone = false := by rw [hsz]; rfl
    have hpl : plainM l = if ((unsign l).dropWhile (· == 48)).length = 0 then [48] else if (preB l [45] && !((unsign l).dropWhile (· == 48)).isEmpty) then 45 :: (unsign l).dropWhile (· == 48) else (unsign l).dropWhile (· == 48) := by
      unfold plainM; rw [hsz]
    have hp1 := preB_one l 45
    obtain ⟨r, hr⟩ : ∃ r, unsign l = r := ⟨_, rfl⟩
    rw [hr] at hpl hv2
    have hrne : r ≠ [] := by
      intro q; rw [q] at hv2; simp [digsB] at hv2
    have hrl : r.length ≤ 100000 := by
      rw [← hr]; unfold unsign; split
      · simp; omega
      · exact hl
    rw [hans] at hpl
    clear hans
    rcases l with _ | ⟨c, t⟩
    case' nil => exact absurd (by rw [← hr]; rfl) hrne
    case' cons =>
      by_cases hc : (c.toNat : Int) = 45
      case' pos =>
        have hcc : c = 45 := UInt8.toNat_inj.1 (by have : (45 : UInt8).toNat = 45 := rfl; omega)
        have hre : r = t := by
          rw [← hr]; unfold unsign; rw [hp1, hcc]; simp
        have hb : preB (c :: t) [45] = true := by rw [hp1, hcc]; simp
        rw [hb] at hpl
        obtain ⟨sg, hsg⟩ : ∃ sg : By, sg = [45] := ⟨_, rfl⟩
        have hpl2 : ans = if (r.dropWhile (· == 48)).length = 0 then [48] else sg ++ r.dropWhile (· == 48) := by
          rw [hpl, hsg]
          split
          · rfl
          · rename_i h
            have : (r.dropWhile (· == 48)).isEmpty = false := by simpa using h
            simp [this]
        have hsgl : sg.length ≤ 1 := by rw [hsg]; simp
        subst hre
        have bc : byteAt (c :: r) 0 = 45 := (byteAt_of rfl).trans hc
        have hz : (1 : Int) ≤ (r.length : Int) + 1 := by omega
        clear hr hp1 hc hv2 hsz hpl hb hcc
        try simp [*]
        repeat (first | (with_reducible first | refine seq_k fun K hK => ?_ | refine pwp_block ?_ | refine pwp_skip ?_ | refine pwp_ret ?_ | refine pwp_exit ?_ | refine then_n ?_ | refine then_r ?_ | refine then_e ?_ | refine then_g ?_ | refine inB_n ?_ | refine inB_r ?_ | refine inB_e ?_ | refine inB_o rfl ?_ | refine inB_g ?_ | refine Leads.go (by assumption) ?_) | (with_reducible refine region_k fun K hK => ?_; simp [*]) | (with_reducible refine region_drawT_k mixedO (by decide +kernel) fun K hK => ?_; simp [*]) | (with_reducible refine region_tame_a mixedO (by decide +kernel) fun K hK => ?_; simp [*, Low, isLoadB, isTameB, List.range_succ, List.range']) | (with_reducible refine cond_t ?_ ?_; (focus (simp [*]; done))) | (with_reducible refine cond_f ?_ ?_; (focus (simp [*]; done))))
        clear bc hz
        rw [← hsg]
        clear hsg
      case' neg =>
        have hcc : ¬ c = 45 := fun q => hc (by rw [q]; rfl)
        have hre : r = c :: t := by
          rw [← hr]; unfold unsign; rw [hp1]; simp [hcc]
        have hb : preB (c :: t) [45] = false := by rw [hp1]; simp [hcc]
        rw [hb] at hpl
        obtain ⟨sg, hsg⟩ : ∃ sg : By, sg = [] := ⟨_, rfl⟩
        have hpl2 : ans = if (r.dropWhile (· == 48)).length = 0 then [48] else sg ++ r.dropWhile (· == 48) := by
          rw [hpl, hsg]; simp
        have hsgl : sg.length ≤ 1 := by rw [hsg]; simp
        have bc : byteAt (c :: t) 0 = (c.toNat : Int) := byteAt_of rfl
        have hc2 : ¬ c.toNat = 45 := by omega
        clear hr hp1 hv2 hsz hpl hb hcc
        try simp [*]
        repeat (first | (with_reducible first | refine seq_k fun K hK => ?_ | refine pwp_block ?_ | refine pwp_skip ?_ | refine pwp_ret ?_ | refine pwp_exit ?_ | refine then_n ?_ | refine then_r ?_ | refine then_e ?_ | refine then_g ?_ | refine inB_n ?_ | refine inB_r ?_ | refine inB_e ?_ | refine inB_o rfl ?_ | refine inB_g ?_ | refine Leads.go (by assumption) ?_) | (with_reducible refine region_k fun K hK => ?_; simp [*]) | (with_reducible refine region_drawT_k mixedO (by decide +kernel) fun K hK => ?_; simp [*]) | (with_reducible refine region_tame_a mixedO (by decide +kernel) fun K hK => ?_; simp [*, Low, isLoadB, isTameB, List.range_succ, List.range']) | (with_reducible refine cond_t ?_ ?_; (focus (simp [*]; done))) | (with_reducible refine cond_f ?_ ?_; (focus (simp [*]; done))))
        clear bc hc hc2
        rw [← hre]
        clear hre
    all_goals
      clear hv hvn
      refine pwp_loop (fun m st => ∃ q, m = q.length ∧ st.env.n = 27 ∧ st.df = [] ∧ st.H = H ∧ st.env.get 0 = sD q ∧ st.env.get 3 = sD sg ∧ q.length ≤ r.length ∧ Hold (q ≠ [] ∧ r.dropWhile (· == 48) = q.dropWhile (· == 48))) r.length ⟨r, rfl, by simp, by simp, by simp, by simp, by simp [*], Nat.le_refl _, ⟨hrne, rfl⟩⟩ ?_
      rintro m ⟨E, Hx, df⟩ ⟨q, rfl, en, edf, eH, e0, e3, hql, hQ⟩
      simp only at en edf eH e0 e3
      subst edf; replace eH := eH.symm; subst eH
      rw [hQ.out.2] at hpl2
      clear hrne
      rcases q with _ | ⟨x, q⟩
      · exact absurd rfl hQ.out.1
      · have bx : byteAt (x :: q) 0 = (x.toNat : Int) := byteAt_of rfl
        have hb : sg.length + (q.length + 1) ≤ 9223372036854775807 := by simp at hql; omega
        by_cases hx : (x.toNat : Int) = 48
        · have hxc : x = 48 := UInt8.toNat_inj.1 (by have : (48 : UInt8).toNat = 48 := rfl; omega)
          cases q with
          | nil =>
            subst hxc
            have hd : ans = [48] := by rw [hpl2]; rfl
            clear hpl2 hsgl
            try clear hsg
            repeat (first | (with_reducible first | refine seq_k fun K hK => ?_ | refine pwp_block ?_ | refine pwp_skip ?_ | refine pwp_ret ?_ | refine pwp_exit ?_ | refine then_n ?_ | refine then_r ?_ | refine then_e ?_ | refine then_g ?_ | refine inB_n ?_ | refine inB_r ?_ | refine inB_e ?_ | refine inB_o rfl ?_ | refine inB_g ?_ | refine Leads.go (by assumption) ?_) | (with_reducible refine region_k fun K hK => ?_; simp [*]) | (with_reducible refine region_drawT_k mixedO (by decide +kernel) fun K hK => ?_; simp [*]) | (with_reducible refine region_tame_a mixedO (by decide +kernel) fun K hK => ?_; simp [*, Low, isLoadB, isTameB, List.range_succ, List.range']) | (with_reducible refine cond_t ?_ ?_; (focus (simp [*]; done))) | (with_reducible refine cond_f ?_ ?_; (focus (simp [*]; done))))
            simp [*]
          | cons y q =>
            have hz : (1 : Int) < (q.length : Int) + 1 + 1 := by omega
            have hz2 : (1 : Int) ≤ (q.length : Int) + 1 + 1 := by omega
            have hz3 : (0 : Int) < (q.length : Int) + 1 + 1 := by omega
            have hQ2 : Hold ((y :: q : By) ≠ [] ∧ r.dropWhile (· == 48) = (y :: q).dropWhile (· == 48)) := ⟨by simp, by rw [hQ.out.2, hxc]; rfl⟩
            subst hxc
            clear hx bx hpl2
            have bx : byteAt (48 :: y :: q) 0 = 48 := rfl
            have hql2 : (y :: q).length ≤ r.length := by simp at hql ⊢; omega
            repeat (first | (with_reducible first | refine seq_k fun K hK => ?_ | refine pwp_block ?_ | refine pwp_skip ?_ | refine pwp_ret ?_ | refine pwp_exit ?_ | refine then_n ?_ | refine then_r ?_ | refine then_e ?_ | refine then_g ?_ | refine inB_n ?_ | refine inB_r ?_ | refine inB_e ?_ | refine inB_o rfl ?_ | refine inB_g ?_ | refine Leads.go (by assumption) ?_) | (with_reducible refine region_k fun K hK => ?_; simp [*]) | (with_reducible refine region_drawT_k mixedO (by decide +kernel) fun K hK => ?_; simp [*]) | (with_reducible refine region_tame_a mixedO (by decide +kernel) fun K hK => ?_; simp [*, Low, isLoadB, isTameB, List.range_succ, List.range']) | (with_reducible refine cond_t ?_ ?_; (focus (simp [*]; done))) | (with_reducible refine cond_f ?_ ?_; (focus (simp [*]; done))))
            refine ⟨(y :: q).length, by simp, y :: q, rfl, ?_⟩
            simp [*]
            exact ⟨by simpa using hql2, ⟨hQ2.out.2⟩⟩
        · have hxc : ¬ x = 48 := fun q => hx (by rw [q]; rfl)
          have hd : ans = sg ++ x :: q := by
            rw [hpl2, List.dropWhile_cons, if_neg (by simp [hxc])]; simp [hxc]
          have hx2 : ¬ x.toNat = 48 := by omega
          clear hpl2
          try clear hsg
          by_cases hq0 : (1 : Int) < (q.length : Int) + 1
          · repeat (first | (with_reducible first | refine seq_k fun K hK => ?_ | refine pwp_block ?_ | refine pwp_skip ?_ | refine pwp_ret ?_ | refine pwp_exit ?_ | refine then_n ?_ | refine then_r ?_ | refine then_e ?_ | refine then_g ?_ | refine inB_n ?_ | refine inB_r ?_ | refine inB_e ?_ | refine inB_o rfl ?_ | refine inB_g ?_ | refine Leads.go (by assumption) ?_) | (with_reducible refine region_k fun K hK => ?_; simp [*]) | (with_reducible refine region_drawT_k mixedO (by decide +kernel) fun K hK => ?_; simp [*]) | (with_reducible refine region_tame_a mixedO (by decide +kernel) fun K hK => ?_; simp [*, Low, isLoadB, isTameB, List.range_succ, List.range']) | (with_reducible refine cond_t ?_ ?_; (focus (simp [*]; done))) | (with_reducible refine cond_f ?_ ?_; (focus (simp [*]; done))))
            simp [*]
          · repeat (first | (with_reducible first | refine seq_k fun K hK => ?_ | refine pwp_block ?_ | refine pwp_skip ?_ | refine pwp_ret ?_ | refine pwp_exit ?_ | refine then_n ?_ | refine then_r ?_ | refine then_e ?_ | refine then_g ?_ | refine inB_n ?_ | refine inB_r ?_ | refine inB_e ?_ | refine inB_o rfl ?_ | refine inB_g ?_ | refine Leads.go (by assumption) ?_) | (with_reducible refine region_k fun K hK => ?_; simp [*]) | (with_reducible refine region_drawT_k mixedO (by decide +kernel) fun K hK => ?_; simp [*]) | (with_reducible refine region_tame_a mixedO (by decide +kernel) fun K hK => ?_; simp [*, Low, isLoadB, isTameB, List.range_succ, List.range']) | (with_reducible refine cond_t ?_ ?_; (focus (simp [*]; done))) | (with_reducible refine cond_f ?_ ?_; (focus (simp [*]; done))))
            simp [*]
end Go.Pv
