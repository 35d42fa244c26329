/- A part of the proof: functions of the program, walked, or what operations come to. -/
import Derived.Test.YtpedcchnhjffpaaGreatPvOF
import Derived.Test.YtpedcchnhjffpaaGreatPvF1
import Derived.Test.YtpedcchnhjffpaaGreatPvN1
-- ZpvTameA ZpvDrawT
namespace Go.Pv
open Go.Proofs
attribute [-simp] eLen UInt8.ofNat_add

attribute [simp] sD
/-! ### Characters -/
/-- A function of a byte, at each. -/
theorem of_bytesV {P : Program} (hm : P.follows .mixedOrders = true) {f : FuncId} {g : UInt8 → List Value} (h : ((List.range 256).all fun n => match runFz P 60 f [.val (.int .u8 (n : Nat))] with | some (.tup l) => decide (l.map (fun d => match d with | .val (.int k n) => some (k, n) | _ => none) = (g (UInt8.ofNat n)).map (fun v => match v with | .int k n => some (k, n) | _ => none)) && l.all (fun d => match d with | .val (.int _ _) => true | _ => false) && (g (UInt8.ofNat n)).all (fun v => match v with | .int _ _ => true | _ => false) | _ => false) = true) (c : UInt8) (H : Heap) :
    PCalls P f [.val (.int .u8 (c.toNat : Nat))] H fun d H' => d = .tup ((g c).map .val) ∧ H' = H := by
  have hc := List.all_eq_true.1 h c.toNat (List.mem_range.2 c.toNat_lt)
  split at hc
  · rename_i l e
    simp only [Bool.and_eq_true, decide_eq_true_eq, List.all_eq_true] at hc
    obtain ⟨⟨h1, h2⟩, h3⟩ := hc
    have hb : l = (g c).map .val := by
      have hg : UInt8.ofNat c.toNat = c := by simp
      rw [hg] at h1 h3
      clear e h
      generalize g c = m at h1 h3
      induction l generalizing m with
      | nil => cases m with
        | nil => rfl
        | cons => simp at h1
      | cons d l ih => cases m with
        | nil => simp at h1
        | cons v m =>
          simp only [List.map_cons, List.cons.injEq] at h1
          have hd := h2 d (by simp)
          have hv := h3 v (by simp)
          have ht := ih (fun x hx => h2 x (by simp [hx])) m h1.2 (fun x hx => h3 x (by simp [hx]))
          rw [ht, List.map_cons]
          congr 1
          have h0 := h1.1
          split at hd <;> try (cases hd; done)
          split at hv <;> try (cases hv; done)
          simp at h0
          rw [h0.1, h0.2]
    rw [hb] at e
    exact PCalls.liftG (runFz_spec hm e) (fun d hd => by simp at hd; subst hd; exact .val _) (.tup _ fun d hd => by obtain ⟨v, _, rfl⟩ := List.mem_map.1 hd; exact .val v) H
  · cases hc
set_option maxRecDepth 100000 in
theorem lead_spec (c : UInt8) (H : Heap) : PCalls Tryz.prog 102 [.val (.int .u8 (c.toNat : Nat))] H fun d H' => d = .tup [.val (.int .i64 ((leadB c).1 : Nat)), .val (.int .u8 ((leadB c).2.1 : Nat)), .val (.int .i32 ((leadB c).2.2 : Nat))] ∧ H' = H :=
  of_bytesV (g := fun c => [.int .i64 ((leadB c).1 : Nat), .int .u8 ((leadB c).2.1 : Nat), .int .i32 ((leadB c).2.2 : Nat)]) mixedO (by kernel_rfl) c H
theorem all_take_succ (p : UInt8 → Bool) (l : By) (k : Nat) (c : UInt8) (h : l[k]? = some c) : (l.take (k + 1)).all p = ((l.take k).all p && p c) := by
  rw [List.take_add_one, h]; simp
def nextD (o : Option (Nat × Nat)) : D := .tup [.val (.int .i32 (((o.getD (0, 0)).1 : Nat) : Int)), .val (.int .i64 (((o.getD (0, 0)).2 : Nat) : Int))]
set_option maxHeartbeats 4000000 in
set_option maxRecDepth 100000 in
theorem Next_spec (l : By) (hl : l.length ≤ 100000) (H : Heap) : PCalls Tryz.prog 93 [sD l] H fun d H' => d = nextD (nextM l) ∧ H' = H := by
  refine PCalls.of_pwp Tryz.call93 Tryz.func93 rfl (by simp [Tryz.ntmps93]) ?_
  rw [Tryz.ntmps93]
  rcases l with _ | ⟨c, t⟩
  · refine W2 ?_
    simp [nextD, nextM]
  · have bc : byteAt (c :: t) 0 = (c.toNat : Int) := byteAt_of rfl
    refine W2 ?_
    refine PCalls.mono (lead_spec c _) ?_
    intro d3 H3 hd3
    rw [hd3.1, hd3.2]
    clear hd3
    try simp [*]
    have hn4 := leadB_le c
    have hb7 := leadB_bits c
    obtain ⟨q, hq⟩ : ∃ q, leadB c = q := ⟨_, rfl⟩
    obtain ⟨n, b, least⟩ := q
    rw [hq] at hn4 hb7
    have hNx : nextM (c :: t) = if n = 0 ∨ t.length + 1 < n then none
      else if (t.take (n - 1)).all cont = false then none
      else if badC (accum b (t.take (n - 1))) least then none
      else some (accum b (t.take (n - 1)), n) := by rw [nextM, hq]
    simp only at hn4 hb7
    rw [hq]
    simp only
    by_cases h1 : n = 0
    · have h1' : (n : Int) = 0 := by omega
      try simp [*]
      refine W2 ?_
      simp [*, nextD]
    · have h1' : ¬ (n : Int) = 0 := by omega
      by_cases h2 : t.length + 1 < n
      · have h2' : (t.length : Int) + 1 < (n : Int) := by omega
        try simp [*]
        refine W2 ?_
        simp [*, nextD]
      · have h2' : ¬ (t.length : Int) + 1 < (n : Int) := by omega
        rw [if_neg (by omega)] at hNx
        have w0 := wrapR (b : Int) (by omega) (by omega)
        try simp [*]
        refine W2 ?_
        have hfin : ∀ k, k ≤ n - 1 → accum b (t.take k) < 33554432 := fun k hk => accum_small b _ hb7 (by simp; omega)
        refine pwp_for ((n - 1)) (fun k st => st.env.n = 63 ∧ st.df = [] ∧ st.H = H ∧ st.env.get 0 = sD (c :: t) ∧ st.env.get 4 = .val (.int .i64 (n : Nat)) ∧ st.env.get 6 = .val (.int .i32 (least : Nat)) ∧ st.env.get 7 = .val (.int .i32 ((accum b (t.take k) : Nat) : Int)) ∧ st.env.get 8 = .val (.int .i64 ((k : Int) + 1)) ∧ (Hold ((t.take k).all cont = true))) ⟨by first | (simp; done) | (simp [*]; done), rfl, by first | rfl | simp, by first | (simp; done) | (simp [*]; done), by first | (simp; done) | (simp [*]; done), by first | (simp; done) | (simp [*]; done), by first | (simp; done) | (simp [*]; done), by first | (simp; done) | (simp [*]; done), by first | done | exact ⟨by simp⟩ | simp⟩ ?_ ?_
        · rintro k ⟨E, Hx, df⟩ hk ⟨en, edf, eH, e0, e4, e6, e7, e8, eP⟩
          simp only at en edf eH e0 e4 e6 e7 e8
          subst edf; replace eH := eH.symm; subst eH
          have hki : (k : Int) < (((n - 1) : Nat) : Int) := by omega
          have hkw := wrapSucc k (by omega)
          obtain ⟨x, hx⟩ : ∃ x, t[k]? = some x := ⟨_, List.getElem?_eq_getElem (by omega)⟩
          have hlt : (k : Int) + 1 < (n : Int) := by omega
          have hk2 : (k : Int) < (t.length : Int) := by omega
          have hk3 : 0 ≤ (k : Int) + 1 := by omega
          have bx : byteAt (c :: t) (k + 1) = (x.toNat : Int) := byteAt_of (by simpa using hx)
          have hs := all_take_succ cont t k x hx
          have ha := accum_take b t k x hx
          have hf := hfin k (by omega)
          have hf1 := hfin (k + 1) (by omega)
          rw [eP.out, Bool.true_and] at hs
          obtain ⟨v, hv⟩ : ∃ v, accum b (t.take k) = v := ⟨_, rfl⟩
          rw [hv] at ha hf e7
          have hsh : ((x.toNat : Int).fdiv (2 ^ min 6 IntKind.u8.bits) = 2) ↔ cont x = true := by
            rw [cont, decide_eq_true_eq, show (2 : Int) ^ min 6 IntKind.u8.bits = 64 from rfl, Int.fdiv_eq_ediv_of_nonneg _ (by decide)]; omega
          by_cases hcx : cont x = true
          · have hsh' := hsh.2 hcx
            have hor := rune_or v x hf
            have hw2 := wrapI ((k : Int) + 1 + 1) (by omega) (by omega)
            rw [hcx] at hs
            have hs' := Hold.mk hs
            clear hs hv
            refine W2 ?_
            simp [*]
            exact ⟨by simpa using hs'.out⟩
          · have hsh' : ¬ (x.toNat : Int).fdiv (2 ^ min 6 IntKind.u8.bits) = 2 := fun q => hcx (hsh.1 q)
            have hcx' : cont x = false := by simpa using hcx
            have h5 : (t.take (n - 1)).all cont = false := by
              cases hq : (t.take (n - 1)).all cont with
              | false => rfl
              | true => have := List.all_eq_true.1 hq x (List.mem_of_getElem? (by rw [List.getElem?_take_of_lt (by omega)]; exact hx)); rw [hcx'] at this; cases this
            rw [if_pos h5] at hNx
            refine W2 ?_
            simp [*, nextD]
        · rintro ⟨E, Hx, df⟩ ⟨en, edf, eH, e0, e4, e6, e7, e8, eP⟩
          simp only at en edf eH e0 e4 e6 e7 e8
          subst edf; replace eH := eH.symm; subst eH
          have h5 := eP.out
          have h6 : ¬ (t.take (n - 1)).all cont = false := by rw [h5]; simp
          rw [if_neg h6] at hNx
          have hlt : ¬ ((n - 1 : Nat) : Int) + 1 < (n : Int) := by omega
          have hf := hfin (n - 1) (Nat.le_refl _)
          obtain ⟨v, hv⟩ : ∃ v, accum b (t.take (n - 1)) = v := ⟨_, rfl⟩
          rw [hv] at hNx e7 hf
          clear h5 h6 hv eP hfin
          by_cases g1 : (v : Int) < (least : Int)
          · have hb : badC v least = true := by simp [badC]; omega
            rw [if_pos hb] at hNx
            refine W2 ?_
            simp [*, nextD]
          · by_cases g2 : 1114111 < (v : Int)
            · have hb : badC v least = true := by simp [badC]; omega
              rw [if_pos hb] at hNx
              refine W2 ?_
              simp [*, nextD]
            · by_cases g3 : 55296 ≤ (v : Int)
              · by_cases g4 : (v : Int) < 57344
                · have hb : badC v least = true := by simp [badC]; omega
                  rw [if_pos hb] at hNx
                  refine W2 ?_
                  simp [*, nextD]
                · have hb : ¬ badC v least = true := by simp [badC]; omega
                  rw [if_neg hb] at hNx
                  refine W2 ?_
                  simp [*, nextD]
              · have hb : ¬ badC v least = true := by simp [badC]; omega
                rw [if_neg hb] at hNx
                refine W2 ?_
                simp [*, nextD]
end Go.Pv
-- ZpvTameA ZpvDrawT
namespace Go.Pv
open Go.Proofs
attribute [-simp] eLen UInt8.ofNat_add

def countM (l : By) : Int := match chars l with | none => -1 | some cs => cs.length
theorem countM_lt (l : By) : countM l < 0 ↔ chars l = none := by
  unfold countM; split
  · rename_i h; simp [h]
  · rename_i cs h; simp [h]
set_option maxHeartbeats 4000000 in
set_option maxRecDepth 100000 in
theorem Count_spec (l : By) (hl : l.length ≤ 100000) (H : Heap) : PCalls Tryz.prog 70 [sD l] H fun d H' => d = .val (.int .i64 (countM l)) ∧ H' = H := by
  refine PCalls.of_pwp Tryz.call70 Tryz.func70 rfl (by simp [Tryz.ntmps70]) ?_
  rw [Tryz.ntmps70]
  refine W2 ?_
  refine pwp_loop (fun m st => ∃ r cs, m = r.length ∧ st.env.n = 21 ∧ st.df = [] ∧ st.H = H ∧ st.env.get 0 = sD r ∧ st.env.get 3 = .val (.int .i64 ((cs.length : Nat) : Int)) ∧ Left l cs r) l.length ⟨l, [], rfl, by simp, by simp, by simp, by simp, by simp, Left.start l⟩ ?_
  rintro m ⟨E, Hx, df⟩ ⟨r, cs, rfl, en, edf, eH, e0, e3, hL⟩
  simp only at en edf eH e0 e3
  subst edf; subst eH
  by_cases hr : r = []
  · subst hr
    have hc := hL.last
    have hcm : countM l = cs.length := by rw [countM, hc]
    refine W2 ?_
    simp [*]
  · have hlen := hL.2
    have hr' : ¬ r = [] := hr
    refine W2 ?_
    refine PCalls.mono (Next_spec r (by omega) _) ?_
    intro d3 H3 hd3
    rw [hd3.1, hd3.2]
    clear hd3
    try simp [*]
    cases hn : nextM r with
    | none =>
      have hc := hL.none hr hn
      have hcm : countM l = -1 := by rw [countM, hc]
      simp only [nextD, Option.getD_none]
      try simp [*]
      refine W2 ?_
      simp [*]
    | some p =>
      obtain ⟨v, n⟩ := p
      have hs := hL.step hr hn
      have hk := nextM_len hn
      have hn0 : ¬ n = 0 := by omega
      have hnl : (n : Int) ≤ (r.length : Int) := by omega
      have hnl2 : n ≤ r.length := by omega
      have hw := wrapI ((cs.length : Int) + 1) (by omega) (by omega)
      simp only [nextD, Option.getD_some]
      have hsH := Hold.mk hs
      clear hs
      try simp [*]
      refine W2 ?_
      refine ⟨(r.drop n).length, by simp; omega, r.drop n, cs ++ [(v, r.take n)], ?_⟩
      simp [*]
      simpa using hsH.out
set_option maxRecDepth 100000 in
set_option maxHeartbeats 4000000 in
theorem Right_spec (l : By) (hl : l.length ≤ 100000) (H : Heap) : PCalls Tryz.prog 45 [sD l] H fun d H' => d = .val (.bool (chars l).isSome) ∧ H' = H := by
  refine PCalls.of_pwp Tryz.call45 Tryz.func45 rfl (by simp [Tryz.ntmps45]) ?_
  rw [Tryz.ntmps45]
  refine W2 ?_
  refine PCalls.mono (Count_spec l hl _) ?_
  intro d3 H3 hd3
  rw [hd3.1, hd3.2]
  clear hd3
  try simp [*]
  cases hc : chars l with
  | none =>
    have h1 : countM l = -1 := by rw [countM, hc]
    try simp [*]
    refine W2 ?_
    simp [*]
  | some cs =>
    have h1 : countM l = cs.length := by rw [countM, hc]
    try simp [*]
    refine W2 ?_
    simp [*]
theorem lead_cases (c : UInt8) : (c.toNat < 128 ∧ leadB c = (1, c.toNat, 0)) ∨ (194 ≤ c.toNat ∧ c.toNat < 224 ∧ leadB c = (2, c.toNat - 192, 128)) ∨ (224 ≤ c.toNat ∧ c.toNat < 240 ∧ leadB c = (3, c.toNat - 224, 2048)) ∨
    (240 ≤ c.toNat ∧ c.toNat < 245 ∧ leadB c = (4, c.toNat - 240, 65536)) ∨ (128 ≤ c.toNat ∧ ¬ (194 ≤ c.toNat ∧ c.toNat < 245) ∧ ∀ t, nextM (c :: t) = none) := by
  have hx := c.toNat_lt
  by_cases h1 : c.toNat < 128
  · exact .inl ⟨h1, by simp [leadB, h1]⟩
  by_cases h2 : 194 ≤ c.toNat ∧ c.toNat < 224
  · refine .inr (.inl ⟨h2.1, h2.2, ?_⟩)
    have e1 : c.toNat / 32 = 6 := by omega
    have e2 : c.toNat % 32 = c.toNat - 192 := by omega
    simp [leadB, h1, e1, e2]
  by_cases h3 : 224 ≤ c.toNat ∧ c.toNat < 240
  · refine .inr (.inr (.inl ⟨h3.1, h3.2, ?_⟩))
    have e0 : ¬ c.toNat / 32 = 6 := by omega
    have e1 : c.toNat / 16 = 14 := by omega
    have e2 : c.toNat % 16 = c.toNat - 224 := by omega
    simp [leadB, h1, e0, e1, e2]
  by_cases h4 : 240 ≤ c.toNat ∧ c.toNat < 245
  · refine .inr (.inr (.inr (.inl ⟨h4.1, h4.2, ?_⟩)))
    have e0 : ¬ c.toNat / 32 = 6 := by omega
    have e1 : ¬ c.toNat / 16 = 14 := by omega
    have e3 : c.toNat / 8 = 30 := by omega
    have e2 : c.toNat % 8 = c.toNat - 240 := by omega
    simp [leadB, h1, e0, e1, e2, e3]
  refine .inr (.inr (.inr (.inr ⟨by omega, by omega, fun t => ?_⟩)))
  by_cases g1 : c.toNat / 32 = 6
  · have hq : leadB c = (2, c.toNat % 32, 128) := by simp [leadB, h1, g1]
    rw [nextM, hq]
    cases t with
    | nil => simp
    | cons x t =>
      have hb : badC (accum (c.toNat % 32) [x]) 128 = true := by
        have h7 : c.toNat % 32 * 64 + x.toNat % 64 < 128 := by omega
        simp [badC, accum, h7]
      simp [hb]
  · by_cases g2 : c.toNat / 8 = 30
    · have e0 : ¬ c.toNat / 32 = 6 := by omega
      have e1 : ¬ c.toNat / 16 = 14 := by omega
      have hq : leadB c = (4, c.toNat % 8, 65536) := by simp [leadB, h1, e0, e1, g2]
      rw [nextM, hq]
      rcases t with _ | ⟨x, _ | ⟨y, _ | ⟨z, t⟩⟩⟩
      · simp
      · simp
      · simp
      · have hb : badC (accum (c.toNat % 8) [x, y, z]) 65536 = true := by
          have h7 : 1114111 < ((c.toNat % 8 * 64 + x.toNat % 64) * 64 + y.toNat % 64) * 64 + z.toNat % 64 := by omega
          simp [badC, accum, h7]
        simp [hb]
    · have hq : leadB c = (0, 0, 0) := by
        have e1 : ¬ c.toNat / 16 = 14 := by omega
        simp [leadB, h1, g1, g2, e1]
      rw [nextM, hq]; simp
set_option maxHeartbeats 4000000 in
set_option maxRecDepth 100000 in
theorem rNext_spec (l : By) (hl : l.length ≤ 100000) (H : Heap) : PCalls Tryz.prog 57 [sD l] H fun d H' => d = nextD (nextM l) ∧ H' = H := by
  refine PCalls.of_pwp Tryz.call57 Tryz.func57 rfl (by simp [Tryz.ntmps57]) ?_
  rw [Tryz.ntmps57]
  rcases l with _ | ⟨c, t⟩
  · refine W2 ?_
    simp [nextD, nextM]
  · have bc : byteAt (c :: t) 0 = (c.toNat : Int) := byteAt_of rfl
    have hx := c.toNat_lt
    have w1 := wrapI (c.toNat : Int) (by omega) (by omega)
    have z1 : ¬ (t.length : Int) + 1 = 0 := by omega
    rcases lead_cases c with ⟨h1, hq⟩ | ⟨h1, h2, hq⟩ | ⟨h1, h2, hq⟩ | ⟨h1, h2, hq⟩ | ⟨h1, h2, hq⟩
    · have hNx : nextM (c :: t) = some (c.toNat, 1) := by
        have : badC c.toNat 0 = false := by simp [badC]; omega
        rw [nextM, hq]; simp [accum, this]
      have h1' : (c.toNat : Int) < 128 := by omega
      have w2 := wrapR (c.toNat : Int) (by omega) (by omega)
      refine W2 ?_
      simp [*, nextD]
    case' inr.inl =>
      obtain ⟨n, hnI⟩ : ∃ n : Nat, n = 2 := ⟨2, rfl⟩
      obtain ⟨b, hbI⟩ : ∃ b : Nat, b = c.toNat - 192 := ⟨_, rfl⟩
      obtain ⟨least, hlI⟩ : ∃ b : Nat, b = 128 := ⟨_, rfl⟩
      have hb7 : b < 128 := by omega
      have hn4 : n ≤ 4 := by omega
      have h0 : ¬ n = 0 := by omega
      rw [← hnI, ← hbI, ← hlI] at hq
      have n1 : (n : Int) = 2 := by omega
      have n2 : (b : Int) = (c.toNat : Int) - 192 := by omega
      have n3 : (least : Int) = 128 := by omega
      have g0 : ¬ (c.toNat : Int) < 128 := by omega
      have g1 : 194 ≤ (c.toNat : Int) := by omega
      have g2 : (c.toNat : Int) < 224 := by omega
      have w2 := wrapI ((c.toNat : Int) - 192) (by omega) (by omega)
      clear h1 h2 hnI hbI hlI
    case' inr.inr.inl =>
      obtain ⟨n, hnI⟩ : ∃ n : Nat, n = 3 := ⟨_, rfl⟩
      obtain ⟨b, hbI⟩ : ∃ b : Nat, b = c.toNat - 224 := ⟨_, rfl⟩
      obtain ⟨least, hlI⟩ : ∃ b : Nat, b = 2048 := ⟨_, rfl⟩
      have hb7 : b < 128 := by omega
      have hn4 : n ≤ 4 := by omega
      have h0 : ¬ n = 0 := by omega
      rw [← hnI, ← hbI, ← hlI] at hq
      have n1 : (n : Int) = 3 := by omega
      have n2 : (b : Int) = (c.toNat : Int) - 224 := by omega
      have n3 : (least : Int) = 2048 := by omega
      have g0 : ¬ (c.toNat : Int) < 128 := by omega
      have g1 : 194 ≤ (c.toNat : Int) := by omega
      have g2 : ¬ (c.toNat : Int) < 224 := by omega
      have g3 : 224 ≤ (c.toNat : Int) := by omega
      have g4 : (c.toNat : Int) < 240 := by omega
      have w2 := wrapI ((c.toNat : Int) - 224) (by omega) (by omega)
      clear h1 h2 hnI hbI hlI
    case' inr.inr.inr.inl =>
      obtain ⟨n, hnI⟩ : ∃ n : Nat, n = 4 := ⟨_, rfl⟩
      obtain ⟨b, hbI⟩ : ∃ b : Nat, b = c.toNat - 240 := ⟨_, rfl⟩
      obtain ⟨least, hlI⟩ : ∃ b : Nat, b = 65536 := ⟨_, rfl⟩
      have hb7 : b < 128 := by omega
      have hn4 : n ≤ 4 := by omega
      have h0 : ¬ n = 0 := by omega
      rw [← hnI, ← hbI, ← hlI] at hq
      have n1 : (n : Int) = 4 := by omega
      have n2 : (b : Int) = (c.toNat : Int) - 240 := by omega
      have n3 : (least : Int) = 65536 := by omega
      have g0 : ¬ (c.toNat : Int) < 128 := by omega
      have g1 : 194 ≤ (c.toNat : Int) := by omega
      have g2 : ¬ (c.toNat : Int) < 224 := by omega
      have g3 : 224 ≤ (c.toNat : Int) := by omega
      have g4 : ¬ (c.toNat : Int) < 240 := by omega
      have g5 : 240 ≤ (c.toNat : Int) := by omega
      have g6 : (c.toNat : Int) < 245 := by omega
      have w2 := wrapI ((c.toNat : Int) - 240) (by omega) (by omega)
      clear h1 h2 hnI hbI hlI
    rotate_left 3
    · have h1' : ¬ (c.toNat : Int) < 128 := by omega
      by_cases h3 : (c.toNat : Int) < 194
      · have g1 : ¬ 194 ≤ (c.toNat : Int) := by omega
        have g2 : ¬ 224 ≤ (c.toNat : Int) := by omega
        have g3 : ¬ 240 ≤ (c.toNat : Int) := by omega
        refine W2 ?_
        simp [*, nextD]
      · have g1 : ¬ (c.toNat : Int) < 224 := by omega
        have g2 : ¬ (c.toNat : Int) < 240 := by omega
        have g3 : ¬ (c.toNat : Int) < 245 := by omega
        have g4 : 194 ≤ (c.toNat : Int) := by omega
        have g5 : 224 ≤ (c.toNat : Int) := by omega
        have g6 : 240 ≤ (c.toNat : Int) := by omega
        refine W2 ?_
        simp [*, nextD]
    all_goals
      have hNx : nextM (c :: t) = if n = 0 ∨ t.length + 1 < n then none
        else if (t.take (n - 1)).all cont = false then none
        else if badC (accum b (t.take (n - 1))) least then none
        else some (accum b (t.take (n - 1)), n) := by rw [nextM, hq]
      have n4 : (n : Int) = n := rfl
      by_cases h2 : (t.length : Int) + 1 < (n : Int)
      · have h3 : n = 0 ∨ t.length + 1 < n := by omega
        rw [if_pos h3] at hNx
        rw [n1] at h2
        clear n4 hq
        refine W2 ?_
        simp [*, nextD]
      · have h3 : ¬ (n = 0 ∨ t.length + 1 < n) := by omega
        have h4 : ¬ t.length + 1 < n := by omega
        rw [if_neg h3] at hNx
        rw [n1] at h2
        clear n4 hq h3
        refine W2 ?_
        have hfin : ∀ k, k ≤ n - 1 → accum b (t.take k) < 33554432 := fun k hk => accum_small b _ hb7 (by simp; omega)
        refine pwp_for ((n - 1)) (fun k st => st.env.n = 88 ∧ st.df = [] ∧ st.H = H ∧ st.env.get 0 = sD (c :: t) ∧ st.env.get 5 = .val (.int .i64 (n : Nat)) ∧ st.env.get 6 = .val (.int .i64 (least : Nat)) ∧ st.env.get 4 = .val (.int .i64 ((accum b (t.take k) : Nat) : Int)) ∧ st.env.get 7 = .val (.int .i64 ((k : Int) + 1)) ∧ (Hold ((t.take k).all cont = true))) ⟨by first | (simp; done) | (simp [*]; done), rfl, by first | rfl | simp, by first | (simp; done) | (simp [*]; done), by first | (simp; done) | (simp [*]; done), by first | (simp; done) | (simp [*]; done), by first | (simp; done) | (simp [*]; done), by first | (simp; done) | (simp [*]; done), by first | done | exact ⟨by simp⟩ | simp⟩ ?_ ?_
        · rintro k ⟨E, Hx, df⟩ hk ⟨en, edf, eH, e0, e5, e6, e4, e7, eP⟩
          simp only at en edf eH e0 e5 e6 e4 e7
          subst edf; replace eH := eH.symm; subst eH
          have hki : (k : Int) < (((n - 1) : Nat) : Int) := by omega
          have hkw := wrapSucc k (by omega)
          clear n1 n2 n3 g0 g1 g2
          obtain ⟨x, hx⟩ : ∃ x, t[k]? = some x := ⟨_, List.getElem?_eq_getElem (by omega)⟩
          have hlt : (k : Int) + 1 < (n : Int) := by omega
          have hk2 : (k : Int) < (t.length : Int) := by omega
          have hk3 : 0 ≤ (k : Int) + 1 := by omega
          have bx : byteAt (c :: t) (k + 1) = (x.toNat : Int) := byteAt_of (by simpa using hx)
          have hs := all_take_succ cont t k x hx
          have ha := accum_take b t k x hx
          have hf := hfin k (by omega)
          have hxl := x.toNat_lt
          rw [eP.out, Bool.true_and] at hs
          obtain ⟨v, hv⟩ : ∃ v, accum b (t.take k) = v := ⟨_, rfl⟩
          rw [hv] at ha hf e4
          have v1 := wrapI (x.toNat : Int) (by omega) (by omega)
          by_cases hcx : cont x = true
          · have hd : x.toNat / 64 = 2 := by simpa [cont] using hcx
            have q1 : ¬ (x.toNat : Int) < 128 := by omega
            have q2 : ¬ 191 < (x.toNat : Int) := by omega
            have v2 := wrapI ((v : Int) * 64) (by omega) (by omega)
            have v3 := wrapI ((v : Int) * 64 + (x.toNat : Int)) (by omega) (by omega)
            have v4 : IntKind.i64.wrap ((v : Int) * 64 + (x.toNat : Int) - 128) = ((v * 64 + x.toNat % 64 : Nat) : Int) := by rw [wrapI _ (by omega) (by omega)]; omega
            have hw2 := wrapI ((k : Int) + 1 + 1) (by omega) (by omega)
            rw [hcx] at hs
            have hs' := Hold.mk hs
            clear hs hv hd
            refine W2 ?_
            simp [*]
            exact ⟨by simpa using hs'.out⟩
          · have hcx' : cont x = false := by simpa using hcx
            have hd : ¬ x.toNat / 64 = 2 := by simpa [cont] using hcx
            have h5 : (t.take (n - 1)).all cont = false := by
              cases hq : (t.take (n - 1)).all cont with
              | false => rfl
              | true => have := List.all_eq_true.1 hq x (List.mem_of_getElem? (by rw [List.getElem?_take_of_lt (by omega)]; exact hx)); rw [hcx'] at this; cases this
            rw [if_pos h5] at hNx
            by_cases q1 : (x.toNat : Int) < 128
            · refine W2 ?_
              simp [*, nextD]
            · have q2 : 191 < (x.toNat : Int) := by omega
              refine W2 ?_
              simp [*, nextD]
        · rintro ⟨E, Hx, df⟩ ⟨en, edf, eH, e0, e5, e6, e4, e7, eP⟩
          simp only at en edf eH e0 e5 e6 e4 e7
          subst edf; replace eH := eH.symm; subst eH
          clear n1 n2 n3 g0 g1 g2
          have h5 := eP.out
          have h6 : ¬ (t.take (n - 1)).all cont = false := by rw [h5]; simp
          rw [if_neg h6] at hNx
          have hlt : ¬ ((n - 1 : Nat) : Int) + 1 < (n : Int) := by omega
          have hf := hfin (n - 1) (Nat.le_refl _)
          obtain ⟨v, hv⟩ : ∃ v, accum b (t.take (n - 1)) = v := ⟨_, rfl⟩
          rw [hv] at hNx e4 hf
          have v1 := wrapR (v : Int) (by omega) (by omega)
          clear h5 h6 hv eP hfin
          by_cases g1 : (v : Int) < (least : Int)
          · have hb : badC v least = true := by simp [badC]; omega
            rw [if_pos hb] at hNx
            refine W2 ?_
            simp [*, nextD]
          · by_cases g3 : 55296 ≤ (v : Int)
            · by_cases g4 : (v : Int) ≤ 57343
              · have hb : badC v least = true := by simp [badC]; omega
                rw [if_pos hb] at hNx
                refine W2 ?_
                simp [*, nextD]
              · by_cases g2 : 1114111 < (v : Int)
                · have hb : badC v least = true := by simp [badC]; omega
                  rw [if_pos hb] at hNx
                  refine W2 ?_
                  simp [*, nextD]
                · have hb : ¬ badC v least = true := by simp [badC]; omega
                  rw [if_neg hb] at hNx
                  refine W2 ?_
                  simp [*, nextD]
            · have g2 : ¬ 1114111 < (v : Int) := by omega
              have hb : ¬ badC v least = true := by simp [badC]; omega
              rw [if_neg hb] at hNx
              refine W2 ?_
              simp [*, nextD]
set_option maxHeartbeats 4000000 in
set_option maxRecDepth 100000 in
theorem rCount_spec (l : By) (hl : l.length ≤ 100000) (H : Heap) : PCalls Tryz.prog 33 [sD l] H fun d H' => d = .val (.int .i64 (countM l)) ∧ H' = H := by
  refine PCalls.of_pwp Tryz.call33 Tryz.func33 rfl (by simp [Tryz.ntmps33]) ?_
  rw [Tryz.ntmps33]
  refine W2 ?_
  refine pwp_loop (fun m st => ∃ r cs, m = r.length ∧ st.env.n = 22 ∧ st.df = [] ∧ st.H = H ∧ st.env.get 0 = sD r ∧ st.env.get 3 = .val (.int .i64 ((cs.length : Nat) : Int)) ∧ Left l cs r) l.length ⟨l, [], rfl, by simp, by simp, by simp, by simp, by simp, Left.start l⟩ ?_
  rintro m ⟨E, Hx, df⟩ ⟨r, cs, rfl, en, edf, eH, e0, e3, hL⟩
  simp only at en edf eH e0 e3
  subst edf; subst eH
  by_cases hr : r = []
  · subst hr
    have hc := hL.last
    have hcm : countM l = cs.length := by rw [countM, hc]
    refine W2 ?_
    simp [*]
  · have hlen := hL.2
    have hr' : 0 < r.length := List.length_pos_iff.2 hr
    refine W2 ?_
    refine PCalls.mono (rNext_spec r (by omega) _) ?_
    intro d3 H3 hd3
    rw [hd3.1, hd3.2]
    clear hd3
    try simp [*]
    cases hn : nextM r with
    | none =>
      have hc := hL.none hr hn
      have hcm : countM l = -1 := by rw [countM, hc]
      simp only [nextD, Option.getD_none]
      try simp [*]
      refine W2 ?_
      simp [*]
    | some p =>
      obtain ⟨v, n⟩ := p
      have hs := hL.step hr hn
      have hk := nextM_len hn
      have hn0 : ¬ n = 0 := by omega
      have hnl : (n : Int) ≤ (r.length : Int) := by omega
      have hnl2 : n ≤ r.length := by omega
      have hw := wrapI ((cs.length : Int) + 1) (by omega) (by omega)
      simp only [nextD, Option.getD_some]
      have hsH := Hold.mk hs
      clear hs
      try simp [*]
      refine W2 ?_
      refine ⟨(r.drop n).length, by simp; omega, r.drop n, cs ++ [(v, r.take n)], ?_⟩
      simp [*]
      simpa using hsH.out
end Go.Pv
-- ZpvTameA ZpvDrawT
namespace Go.Pv
open Go.Proofs
attribute [-simp] eLen UInt8.ofNat_add

attribute [simp] fillD
/-! ### Beginnings, whole numbers -/
def preB (l p : By) : Bool := decide (l.take p.length = p)
set_option maxHeartbeats 4000000 in
set_option maxRecDepth 100000 in
theorem HasPrefix_spec (l p : By) (H : Heap) : PCalls Tryz.prog 147 [sD l, sD p] H fun d H' => d = .val (.bool (preB l p)) ∧ H' = H := by
  refine PCalls.of_pwp Tryz.call147 Tryz.func147 rfl (by simp [Tryz.ntmps147]) ?_
  rw [Tryz.ntmps147]
  by_cases h : p.length ≤ l.length
  · have h1 : (p.length : Int) ≤ (l.length : Int) := by omega
    refine W2 ?_
    simp [*, preB]
  · have h1 : ¬ (p.length : Int) ≤ (l.length : Int) := by omega
    have h2 : preB l p = false := by
      simp only [preB, decide_eq_false_iff_not]
      intro q; have := congrArg List.length q; simp at this; omega
    refine W2 ?_
    simp [*]
theorem preB_len {l p : By} (h : preB l p = true) : p.length ≤ l.length := by
  simp only [preB, decide_eq_true_eq] at h
  have := congrArg List.length h; simp at this; omega
set_option maxHeartbeats 4000000 in
set_option maxRecDepth 100000 in
theorem slCutPrefix_spec (l p : By) (H : Heap) : PCalls Tryz.prog 142 [sD l, sD p] H fun d H' => d = .tup [sD (if preB l p then l.drop p.length else l), .val (.bool (preB l p))] ∧ H' = H := by
  refine PCalls.of_pwp Tryz.call142 Tryz.func142 rfl (by simp [Tryz.ntmps142]) ?_
  rw [Tryz.ntmps142]
  refine W2 ?_
  refine PCalls.mono (HasPrefix_spec l p _) ?_
  intro d3 H3 hd3
  rw [hd3.1, hd3.2]
  clear hd3
  try simp [*]
  cases h : preB l p with
  | false =>
    try simp [*]
    refine W2 ?_
    simp [*]
  | true =>
    have h1 := preB_len h
    have h2 : (p.length : Int) ≤ (l.length : Int) := by omega
    try simp [*]
    refine W2 ?_
    simp [*]
set_option maxHeartbeats 4000000 in
set_option maxRecDepth 100000 in
theorem CutPrefix_spec (l p : By) (H : Heap) : PCalls Tryz.prog 139 [sD l, sD p] H fun d H' => d = .tup [sD (if preB l p then l.drop p.length else l), .val (.bool (preB l p))] ∧ H' = H := by
  refine PCalls.of_pwp Tryz.call139 Tryz.func139 rfl (by simp [Tryz.ntmps139]) ?_
  rw [Tryz.ntmps139]
  refine W2 ?_
  refine PCalls.mono (slCutPrefix_spec l p _) ?_
  intro d3 H3 hd3
  rw [hd3.1, hd3.2]
  clear hd3
  try simp [*]
  refine W2 ?_
  simp [*]
set_option maxHeartbeats 4000000 in
set_option maxRecDepth 100000 in
theorem trimLeftByte_spec (l : By) (c : UInt8) (hl : l.length ≤ 100000) (H : Heap) : PCalls Tryz.prog 143 [sD l, .val (.int .u8 (c.toNat : Nat))] H fun d H' => d = sD (l.dropWhile (· == c)) ∧ H' = H := by
  refine PCalls.of_pwp Tryz.call143 Tryz.func143 rfl (by simp [Tryz.ntmps143]) ?_
  rw [Tryz.ntmps143]
  refine W2 ?_
  refine pwp_loop (fun m st => ∃ r, m = r.length ∧ st.env.n = 17 ∧ st.df = [] ∧ st.H = H ∧ st.env.get 0 = sD r ∧ st.env.get 1 = .val (.int .u8 (c.toNat : Nat)) ∧ Hold (l.dropWhile (· == c) = r.dropWhile (· == c))) l.length ⟨l, rfl, by simp, by simp, by simp, by simp, by simp, ⟨rfl⟩⟩ ?_
  rintro m ⟨E, Hx, df⟩ ⟨r, rfl, en, edf, eH, e0, e1, hL⟩
  simp only at en edf eH e0 e1
  subst edf; replace eH := eH.symm; subst eH
  cases r with
  | nil =>
    refine W2 ?_
    simp [*]
    rw [hL.out]; rfl
  | cons x r =>
    have bx : byteAt (x :: r) 0 = (x.toNat : Int) := byteAt_of rfl
    by_cases hx : (x.toNat : Int) = (c.toNat : Int)
    · have hxc : x = c := UInt8.toNat_inj.1 (by omega)
      have hd : l.dropWhile (· == c) = r.dropWhile (· == c) := by rw [hL.out, List.dropWhile_cons, if_pos (by simp [hxc])]
      have hD := Hold.mk hd
      clear hd
      have hz : (1 : Int) ≤ (r.length : Int) + 1 := by omega
      subst hxc
      clear hx
      refine W2 ?_
      refine ⟨r.length, by simp, r, rfl, ?_⟩
      simp [*]
    · have hxc : ¬ x = c := fun q => hx (by rw [q])
      have hd : l.dropWhile (· == c) = x :: r := by rw [hL.out, List.dropWhile_cons, if_neg (by simp [hxc])]
      have hD := Hold.mk hd
      clear hd
      have hx2 : ¬ x.toNat = c.toNat := by omega
      refine W2 ?_
      simp [*]
      rw [hD.out]
set_option maxHeartbeats 4000000 in
set_option maxRecDepth 100000 in
theorem TrimLeft1_spec (l : By) (c : UInt8) (hc : c.toNat < 128) (hl : l.length ≤ 100000) (H : Heap) : PCalls Tryz.prog 141 [sD l, sD [c]] H fun d H' => d = sD (l.dropWhile (· == c)) ∧ H' = H := by
  refine PCalls.of_pwp Tryz.call141 Tryz.func141 rfl (by simp [Tryz.ntmps141]) ?_
  rw [Tryz.ntmps141]
  have bc : byteAt [c] 0 = (c.toNat : Int) := rfl
  have hc1 : (c.toNat : Int) < 128 := by omega
  by_cases h0 : l = []
  · subst h0
    refine W2 ?_
    simp [*]
  · refine W2 ?_
    refine PCalls.mono (trimLeftByte_spec l c hl _) ?_
    intro d3 H3 hd3
    rw [hd3.1, hd3.2]
    clear hd3
    try simp [*]
    refine W2 ?_
    simp [*]
def digsB (l : By) : Bool := !l.isEmpty && l.all isDig
theorem all_not (p : UInt8 → Bool) (l : By) (k : Nat) (c : UInt8) (h : l[k]? = some c) (hp : p c = false) : l.all p = false := by
  cases hq : l.all p with
  | false => rfl
  | true => have := List.all_eq_true.1 hq c (List.mem_of_getElem? h); rw [hp] at this; cases this
set_option maxHeartbeats 4000000 in
set_option maxRecDepth 100000 in
theorem plainDigits_spec (l : By) (hl : l.length ≤ 100000) (H : Heap) : PCalls Tryz.prog 140 [sD l] H fun d H' => d = .val (.bool (digsB l)) ∧ H' = H := by
  refine PCalls.of_pwp Tryz.call140 Tryz.func140 rfl (by simp [Tryz.ntmps140]) ?_
  rw [Tryz.ntmps140]
  refine W2 ?_
  refine pwp_for (l.length) (fun k st => st.env.n = 22 ∧ st.df = [] ∧ st.H = H ∧ st.env.get 0 = sD l ∧ st.env.get 5 = .val (.int .i64 l.length) ∧ st.env.get 6 = .val (.int .i64 k) ∧ ((l.take k).all isDig = true)) ⟨by first | (simp; done) | (simp [*]; done), rfl, by first | rfl | simp, by first | (simp; done) | (simp [*]; done), by first | (simp; done) | (simp [*]; done), by first | (simp; done) | (simp [*]; done), by first | (simp; done) | (simp [*]; done)⟩ ?_ ?_
  · rintro k ⟨E, Hx, df⟩ hk ⟨en, edf, eH, e0, e5, e6, eP⟩
    simp only at en edf eH e0 e5 e6
    subst edf; replace eH := eH.symm; subst eH
    have hki : (k : Int) < ((l.length : Nat) : Int) := by omega
    have hkw := wrapSucc k (by omega)
    obtain ⟨c, hc⟩ : ∃ c, l[k]? = some c := ⟨_, List.getElem?_eq_getElem (by omega)⟩
    have bc : byteAt l k = (c.toNat : Int) := byteAt_of hc
    have lc := toNat_lt c
    have hs := all_take_succ isDig l k c hc
    rw [eP, Bool.true_and] at hs
    by_cases h1 : (c.toNat : Int) < 48
    · have h2 : isDig c = false := by simp [isDig]; omega
      have h5 := all_not isDig l k c hc h2
      refine W2 ?_
      simp [*, digsB]
    · by_cases h3 : 57 < (c.toNat : Int)
      · have h2 : isDig c = false := by simp [isDig]; omega
        have h5 := all_not isDig l k c hc h2
        refine W2 ?_
        simp [*, digsB]
      · have h2 : isDig c = true := by simp [isDig]; omega
        refine W2 ?_
        simp [*]
  · rintro ⟨E, Hx, df⟩ ⟨en, edf, eH, e0, e5, e6, eP⟩
    simp only at en edf eH e0 e5 e6
    subst edf; replace eH := eH.symm; subst eH
    rw [List.take_length] at eP
    refine W2 ?_
    simp [*, digsB]
    cases l <;> simp
/-- A whole number's text: below 0, its digits. -/
def sizedM (l : By) : Option (Bool × By) :=
  let r := if preB l [45] then l.drop 1 else l
  if digsB r then some (preB l [45] && !(r.dropWhile (· == 48)).isEmpty, r.dropWhile (· == 48)) else none
def szD : Option (Bool × By) → D
  | none => .agg [.val (.bool false), .val (.int .i64 0), sD []]
  | some (b, ds) => .agg [.val (.bool b), .val (.int .i64 (ds.length : Nat)), sD ds]
set_option maxHeartbeats 4000000 in
set_option maxRecDepth 100000 in
theorem sized_local (l : By) (hl : l.length ≤ 100000) : PCalls Tryz.prog 138 [sD l] (noHeap noG) fun d H' => d = .tup [szD (sizedM l), .val (.bool (sizedM l).isSome)] := by
  refine PCalls.of_pwp Tryz.call138 Tryz.func138 rfl (by simp [Tryz.ntmps138]) ?_
  rw [Tryz.ntmps138]
  have hcp := CutPrefix_spec l [45]
  have hr : (if preB l [45] then l.drop ([45] : By).length else l).length ≤ 100000 := by
    split
    · simp; omega
    · exact hl
  have hm : sizedM l = (let r := if preB l [45] then l.drop ([45] : By).length else l; if digsB r then some (preB l [45] && !(r.dropWhile (· == 48)).isEmpty, r.dropWhile (· == 48)) else none) := rfl
  obtain ⟨r, hre⟩ : ∃ r, (if preB l [45] then l.drop ([45] : By).length else l) = r := ⟨_, rfl⟩
  rw [hre] at hr hm
  simp only [hre] at hcp
  try simp only at hm
  obtain ⟨b, hbe⟩ : ∃ b, preB l [45] = b := ⟨_, rfl⟩
  rw [hbe] at hm
  simp only [hbe] at hcp
  clear hre hbe
  refine W2 ?_
  refine PCalls.mono (hcp _) ?_
  intro d3 H3 hd3
  rw [hd3.1, hd3.2]
  clear hd3
  try simp [*]
  try simp [*]
  refine W2 ?_
  refine PCalls.mono (plainDigits_spec r hr _) ?_
  intro d3 H3 hd3
  rw [hd3.1, hd3.2]
  clear hd3
  try simp [*]
  cases hd : digsB r with
  | false =>
    rw [hd] at hm
    simp only [Bool.false_eq_true, if_false] at hm
    try simp [*]
    refine W2 ?_
    simp [*, szD]
  | true =>
    rw [hd] at hm
    simp only [if_true] at hm
    try simp [*]
    refine W2 ?_
    refine PCalls.mono (TrimLeft1_spec r 48 (by decide) hr _) ?_
    intro d3 H3 hd3
    rw [hd3.1, hd3.2]
    clear hd3
    try simp [*]
    obtain ⟨q, hq⟩ : ∃ q, r.dropWhile (· == 48) = q := ⟨_, rfl⟩
    rw [hq] at hm ⊢
    clear hq
    cases b
    · try simp [*]
      refine W2 ?_
      simp [*, szD]
    · cases q
      · try simp [*]
        refine W2 ?_
        simp [*, szD]
      · try simp [*]
        refine W2 ?_
        simp [*, szD]
theorem pure_sz (o : Option (Bool × By)) : Pure (szD o) := by
  rcases o with _ | ⟨b, ds⟩
  · exact .agg _ fun d hd => by simp at hd; rcases hd with rfl | rfl | rfl <;> exact .val _
  · exact .agg _ fun d hd => by simp at hd; rcases hd with rfl | rfl | rfl <;> exact .val _
set_option maxRecDepth 100000 in
theorem sized_spec (l : By) (hl : l.length ≤ 100000) (H : Heap) : PCalls Tryz.prog 138 [sD l] H fun d H' => d = .tup [szD (sizedM l), .val (.bool (sizedM l).isSome)] ∧ H' = H :=
  PCalls.liftG (sized_local l hl) (fun d hd => by
    simp only [List.mem_cons, List.mem_nil_iff, or_false] at hd
    subst hd; exact .val _) (.tup _ fun d hd => by
      simp only [List.mem_cons, List.mem_nil_iff, or_false] at hd
      rcases hd with rfl | rfl
      · exact pure_sz _
      · exact .val _) H
set_option maxHeartbeats 4000000 in
set_option maxRecDepth 100000 in
theorem Valid_local (l : By) (hl : l.length ≤ 100000) : PCalls Tryz.prog 137 [sD l] (noHeap noG) fun d H' => d = .val (.bool (sizedM l).isSome) := by
  refine PCalls.of_pwp Tryz.call137 Tryz.func137 rfl (by simp [Tryz.ntmps137]) ?_
  rw [Tryz.ntmps137]
  refine W2 ?_
  refine PCalls.mono (sized_spec l hl _) ?_
  intro d3 H3 hd3
  rw [hd3.1, hd3.2]
  clear hd3
  try simp [*]
  cases hs : sizedM l with
  | none =>
    simp only [szD]
    try simp [*]
    refine W2 ?_
    simp [*]
  | some q =>
    obtain ⟨b, ds⟩ := q
    simp only [szD]
    try simp [*]
    refine W2 ?_
    simp [*]
set_option maxRecDepth 100000 in
theorem Valid_spec (l : By) (hl : l.length ≤ 100000) (H : Heap) : PCalls Tryz.prog 137 [sD l] H fun d H' => d = .val (.bool (sizedM l).isSome) ∧ H' = H :=
  PCalls.liftG (Valid_local l hl) (fun d hd => by
    simp only [List.mem_cons, List.mem_nil_iff, or_false] at hd
    subst hd; exact .val _) (.val _) H
theorem sizedM_len {l : By} {b : Bool} {ds : By} (h : sizedM l = some (b, ds)) : ds.length ≤ l.length := by
  unfold sizedM at h
  obtain ⟨r, hr⟩ : ∃ r, (if preB l [45] then l.drop 1 else l) = r := ⟨_, rfl⟩
  have hrl : r.length ≤ l.length := by
    rw [← hr]; split
    · simp
    · exact Nat.le_refl _
  simp only [hr] at h
  by_cases hd : digsB r = true
  · rw [if_pos hd] at h
    simp only [Option.some.injEq, Prod.mk.injEq] at h
    rw [← h.2]
    exact Nat.le_trans (List.dropWhile_sublist _).length_le hrl
  · rw [if_neg hd] at h; cases h
def plainM (l : By) : By := match sizedM l with
  | none => []
  | some (b, ds) => if ds.length = 0 then [48] else if b then 45 :: ds else ds
set_option maxHeartbeats 4000000 in
set_option maxRecDepth 100000 in
theorem Plain_local (l : By) (hl : l.length ≤ 100000) : PCalls Tryz.prog 136 [sD l] (noHeap noG) fun d H' => d = sD (plainM l) := by
  refine PCalls.of_pwp Tryz.call136 Tryz.func136 rfl (by simp [Tryz.ntmps136]) ?_
  rw [Tryz.ntmps136]
  refine W2 ?_
  refine PCalls.mono (sized_spec l hl _) ?_
  intro d3 H3 hd3
  rw [hd3.1, hd3.2]
  clear hd3
  try simp [*]
  have hp : plainM l = match sizedM l with
    | none => []
    | some (b, ds) => if ds.length = 0 then [48] else if b then 45 :: ds else ds := rfl
  cases hs : sizedM l with
  | none =>
    rw [hs] at hp
    simp only at hp
    simp only [szD, Option.isSome_none]
    try simp [*]
    refine W2 ?_
    simp [*]
  | some q =>
    obtain ⟨b, ds⟩ := q
    have hdl' := sizedM_len hs
    rw [hs] at hp
    simp only at hp
    clear hs
    simp only [szD, Option.isSome_some]
    cases ds with
    | nil =>
      simp only [List.length_nil, if_true] at hp
      try simp [*]
      refine W2 ?_
      simp [*]
    | cons c ds =>
      have hz : ¬ (ds.length : Int) + 1 = 0 := by omega
      have hz2 : 1 + (ds.length + 1) ≤ 9223372036854775807 := by simp at hdl'; omega
      cases b
      · simp at hp
        try simp [*]
        refine W2 ?_
        simp [*]
      · simp at hp
        try simp [*]
        refine W2 ?_
        simp [*]
set_option maxRecDepth 100000 in
theorem Plain_spec (l : By) (hl : l.length ≤ 100000) (H : Heap) : PCalls Tryz.prog 136 [sD l] H fun d H' => d = sD (plainM l) ∧ H' = H :=
  PCalls.liftG (Plain_local l hl) (fun d hd => by
    simp only [List.mem_cons, List.mem_nil_iff, or_false] at hd
    subst hd; exact .val _) (.val _) H
theorem of_bytes {P : Program} (hm : P.follows .mixedOrders = true) {f : FuncId} {g : UInt8 → Bool} (h : ((List.range 256).all fun n => match runFz P 60 f [.val (.int .u8 (n : Nat))] with | some (.val (.bool b)) => b == g (UInt8.ofNat n) | _ => false) = true) (c : UInt8) (H : Heap) :
    PCalls P f [.val (.int .u8 (c.toNat : Nat))] H fun d H' => d = .val (.bool (g c)) ∧ H' = H := by
  have hc := List.all_eq_true.1 h c.toNat (List.mem_range.2 c.toNat_lt)
  split at hc
  · rename_i b e
    have hb : b = g c := by simpa using hc
    rw [hb] at e
    exact PCalls.alone (vs := [.int .u8 (c.toNat : Nat)]) (runFz_spec hm e) H
  · cases hc
end Go.Pv
-- ZpvTameA ZpvDrawT
namespace Go.Pv
open Go.Proofs
attribute [-simp] eLen UInt8.ofNat_add

/-! ### strings.Builder -/
structure BldI (H : Heap) (i : Nat) (a x : D) (out : By) : Prop where
  row : H.get i = some (.row 108 [.agg [a, x]])
  at_ : a = .val (.pointer none) ∨ a = .rptr i 108 0 0
  buf : Grow H x 5 (out.map byD)
  apart : NotIt x i
  lt : i < H.nx
theorem eToStr_by (l : By) : eToStr (l.map byD) = some (sD l) := by
  unfold eToStr
  have h1 : (l.map byD).all isByteD = true := by
    rw [List.all_eq_true]; intro d hd; obtain ⟨c, _, rfl⟩ := List.mem_map.1 hd; rfl
  rw [if_pos h1]
  have h2 : (l.map byD).map toByteD = l := by
    rw [List.map_map]
    conv => rhs; rw [← List.map_id l]
    apply List.map_congr_left
    intro c _
    simp [toByteD, byD]
  rw [h2]; rfl
theorem Grow.oneP {H : Heap} {x : D} {e : TypeId} {l : List D} (h : Grow H x e l) : okPart x = true ∧ cellsD x = [x] := by
  rcases h with ⟨_, rfl⟩ | ⟨j, _, rfl, _⟩ <;> exact ⟨rfl, rfl⟩
theorem Grow.put {H : Heap} {x : D} {e : TypeId} {l : List D} {i : Nat} {o : PObj} (h : Grow H x e l) (hn : NotIt x i) : Grow (H.put i (some o)) x e l := by
  rcases h with h | ⟨j, q1, q2, q3, q4⟩
  · exact .inl h
  · exact .inr ⟨j, q1, q2, by rw [Heap.put_ne _ _ (fun e => hn _ _ _ (by rw [q2, e]))]; exact q3, q4⟩
def Bld (H : Heap) (p : D) (out : By) : Prop := ∃ i a x, p = .rptr i 108 0 0 ∧ BldI H i a x out
set_option maxRecDepth 100000 in
theorem NoEscape_spec (d0 : D) (H : Heap) : PCalls Tryz.prog 100 [d0] H fun d H' => d = d0 ∧ H' = H :=
  (prOf_sound (x := (100, .same)) ⟨_, Tryz.func100, by kernel_rfl, by kernel_rfl, by kernel_rfl, by kernel_rfl⟩ rfl).mono fun d H' h => ⟨h.1.symm ▸ rfl, h.2⟩
set_option maxHeartbeats 4000000 in
set_option maxRecDepth 100000 in
theorem copyCheck_spec {H : Heap} {i : Nat} {a x : D} {out : By} (h : BldI H i a x out) : PCalls Tryz.prog 91 [.rptr i 108 0 0] H fun d H' => BldI H' i (.rptr i 108 0 0) x out ∧ H'.nx = H.nx ∧ H'.G = H.G := by
  obtain ⟨h1, h2, h3, h4, h5⟩ := h
  refine PCalls.of_pwp Tryz.call91 Tryz.func91 rfl (by simp [Tryz.ntmps91]) ?_
  rw [Tryz.ntmps91]
  rcases h2 with rfl | rfl
  · refine W2 ?_
    refine PCalls.mono (NoEscape_spec _ _) ?_
    intro d3 H3 hd3
    rw [hd3.1, hd3.2]
    clear hd3
    try simp [*]
    refine W2 ?_
    simp [*, setIn, updD]
    exact ⟨by simp, .inr rfl, by
      rcases h3 with h3 | ⟨j, q1, q2, q3⟩
      · exact .inl h3
      · refine .inr ⟨j, q1, q2, ?_⟩
        rw [Heap.put_ne _ _ (fun e => h4 _ _ _ (by rw [q2, e]))]
        exact q3, h4, h5⟩
  · refine W2 ?_
    simp [*]
    exact ⟨h1, .inr rfl, h3, h4, h5⟩
set_option maxHeartbeats 4000000 in
set_option maxRecDepth 100000 in
theorem WriteString_spec {H : Heap} {p : D} {out : By} (h : Bld H p out) (s : By) (hl : out.length + s.length ≤ 1000000) : PCalls Tryz.prog 68 [p, sD s] H fun d H' => Bld H' p (out ++ s) ∧ d = .tup [.val (.int .i64 (s.length : Nat)), .val .nilIface] := by
  obtain ⟨i, a, x, rfl, hB⟩ := h
  refine PCalls.of_pwp Tryz.call68 Tryz.func68 rfl (by simp [Tryz.ntmps68]) ?_
  rw [Tryz.ntmps68]
  refine W2 ?_
  refine PCalls.mono (copyCheck_spec hB) ?_
  rintro dc Hc ⟨⟨h1, h2, h3, h4, h5⟩, hnx, hG⟩
  have hlx := lenG78 h3
  by_cases hs : s = []
  · subst hs
    rcases h3 with ⟨q1, rfl⟩ | ⟨j, q1, rfl, q3, q4⟩
    · refine W2 ?_
      simp [appK, isSliceD]
      simp [*, setIn, updD]
      refine W2 ?_
      simp [*]
      exact ⟨i, _, _, rfl, by simp, .inr rfl, .inl ⟨by simpa using q1, rfl⟩, h4, by simpa using h5⟩
    · refine W2 ?_
      simp [appK, isSliceD]
      simp [*, setIn, updD]
      refine W2 ?_
      simp [*]
      exact ⟨i, _, _, rfl, by simp, .inr rfl, .inr ⟨j, q1, by simp, by rw [Heap.put_ne _ _ (fun e => h4 _ _ _ (by rw [e]))]; exact q3, q4⟩, h4, by simpa using h5⟩
  · have hnn : s.map byD ≠ [] := by simpa using hs
    refine W2 ?_
    refine oK_app h3 ?_ ?_ ?_
    · simp [*]
    · (simp; omega)
    intro d1 H1 hG1 hn1 hH1 hf1
    try simp [*]
    obtain ⟨k1, k2⟩ := hf1 i h5 h4
    obtain ⟨o1, o2⟩ := Grow.oneP hG1
    rw [h1] at k1
    refine W2 ?_
    simp [*, setIn, updD]
    refine W2 ?_
    simp [*]
    refine ⟨i, _, _, rfl, by simp, .inr rfl, ?_, k2, by simp; omega⟩
    rw [List.map_append]
    exact Grow.put hG1 k2
set_option maxHeartbeats 4000000 in
set_option maxRecDepth 100000 in
theorem BLen_spec {H : Heap} {p : D} {out : By} (h : Bld H p out) : PCalls Tryz.prog 129 [p] H fun d H' => d = .val (.int .i64 (out.length : Nat)) ∧ H' = H := by
  obtain ⟨i, a, x, rfl, h1, h2, h3, h4, h5⟩ := h
  refine PCalls.of_pwp Tryz.call129 Tryz.func129 rfl (by simp [Tryz.ntmps129]) ?_
  rw [Tryz.ntmps129]
  have hlx := lenG78 h3
  refine W2 ?_
  simp [*]
set_option maxHeartbeats 4000000 in
set_option maxRecDepth 100000 in
theorem BString_spec {H : Heap} {p : D} {out : By} (h : Bld H p out) : PCalls Tryz.prog 69 [p] H fun d H' => d = sD out := by
  obtain ⟨i, a, x, rfl, h1, h2, h3, h4, h5⟩ := h
  refine PCalls.of_pwp Tryz.call69 Tryz.func69 rfl (by simp [Tryz.ntmps69]) ?_
  rw [Tryz.ntmps69]
  rcases h3 with ⟨h6, rfl⟩ | ⟨j, q1, rfl, q3, q4⟩
  · refine W2 ?_
    simp [*]
    have := List.map_eq_nil_iff.1 h6
    subst this
    rfl
  · have hz : 0 < out.length := by
      cases out with
      | nil => exact absurd rfl q4
      | cons => simp
    have hT : eToStr ((out.map byD).take out.length) = some (sD out) := by
      rw [List.take_of_length_le (by simp)]; exact eToStr_by out
    have hz2 : (0 : Int) < (out.length : Int) := by omega
    simp only [sD] at hT
    refine W2 ?_
    simp [*]
end Go.Pv
-- ZpvTameA ZpvDrawT
namespace Go.Pv
open Go.Proofs
attribute [-simp] eLen UInt8.ofNat_add

set_option maxHeartbeats 4000000 in
set_option maxRecDepth 100000 in
theorem kind_spec (v : Nat) (H : Heap) : PCalls Tryz.prog 128 [.val (.int .i32 (v : Nat))] H fun d H' => d = .val (.int .i64 ((kindN v : Nat) : Int)) ∧ H' = H := by
  refine PCalls.of_pwp Tryz.call128 Tryz.func128 rfl (by simp [Tryz.ntmps128]) ?_
  rw [Tryz.ntmps128]
  by_cases h9 : v = 9
  · subst h9
    refine W2 ?_
    simp [*]
    try rfl
  by_cases h10 : v = 10
  · subst h10
    refine W2 ?_
    simp [*]
    try rfl
  by_cases h11 : v = 11
  · subst h11
    refine W2 ?_
    simp [*]
    try rfl
  by_cases h12 : v = 12
  · subst h12
    refine W2 ?_
    simp [*]
    try rfl
  by_cases h13 : v = 13
  · subst h13
    refine W2 ?_
    simp [*]
    try rfl
  by_cases h32 : v = 32
  · subst h32
    refine W2 ?_
    simp [*]
    try rfl
  by_cases h133 : v = 133
  · subst h133
    refine W2 ?_
    simp [*]
    try rfl
  by_cases h160 : v = 160
  · subst h160
    refine W2 ?_
    simp [*]
    try rfl
  by_cases h127 : v = 127
  · subst h127
    refine W2 ?_
    simp [*]
    try rfl
  by_cases h173 : v = 173
  · subst h173
    refine W2 ?_
    simp [*]
    try rfl
  by_cases h8203 : v = 8203
  · subst h8203
    refine W2 ?_
    simp [*]
    try rfl
  have g9 : ¬ (v : Int) = 9 := by omega
  have g10 : ¬ (v : Int) = 10 := by omega
  have g11 : ¬ (v : Int) = 11 := by omega
  have g12 : ¬ (v : Int) = 12 := by omega
  have g13 : ¬ (v : Int) = 13 := by omega
  have g32 : ¬ (v : Int) = 32 := by omega
  have g133 : ¬ (v : Int) = 133 := by omega
  have g160 : ¬ (v : Int) = 160 := by omega
  have g127 : ¬ (v : Int) = 127 := by omega
  have g173 : ¬ (v : Int) = 173 := by omega
  have g8203 : ¬ (v : Int) = 8203 := by omega
  have hb : blankC v = false := by simp [blankC]; omega
  by_cases h1 : (v : Int) < 32
  · have hn : nothC v = true := by simp [nothC, hb]; omega
    have hk : kindN v = 1 := by simp [kindN, hb, hn]
    refine W2 ?_
    simp [*]
  · have hn : nothC v = false := by simp [nothC, hb]; omega
    have hk : kindN v = 2 := by simp [kindN, hb, hn]
    refine W2 ?_
    simp [*]
set_option maxHeartbeats 4000000 in
set_option maxRecDepth 100000 in
theorem small_spec (v : Nat) (own : By) (hv : v < 1114112) (H : Heap) : PCalls Tryz.prog 130 [.val (.int .i32 (v : Nat)), sD own] H fun d H' => d = sD (smallM v own) ∧ H' = H := by
  refine PCalls.of_pwp Tryz.call130 Tryz.func130 rfl (by simp [Tryz.ntmps130]) ?_
  rw [Tryz.ntmps130]
  have w := wrapR ((v : Int) + 32) (by omega) (by omega)
  by_cases h1 : 65 ≤ v ∧ v ≤ 90
  · have g1 : 65 ≤ (v : Int) := by omega
    have g2 : (v : Int) ≤ 90 := by omega
    have hc : capC v = true := by simp [capC]; omega
    refine W2 ?_
    simp [*, smallM]
  · by_cases h2 : 192 ≤ v ∧ v ≤ 222 ∧ v ≠ 215
    · have g1 : 65 ≤ (v : Int) := by omega
      have g2 : ¬ (v : Int) ≤ 90 := by omega
      have g3 : 192 ≤ (v : Int) := by omega
      have g4 : (v : Int) ≤ 222 := by omega
      have g5 : ¬ (v : Int) = 215 := by omega
      have hc : capC v = true := by simp [capC]; omega
      refine W2 ?_
      simp [*, smallM]
    · have hc : capC v = false := by simp [capC]; omega
      by_cases g1 : 65 ≤ (v : Int)
      · have g2 : ¬ (v : Int) ≤ 90 := by omega
        by_cases g3 : 192 ≤ (v : Int)
        · by_cases g4 : (v : Int) ≤ 222
          · have g5 : (v : Int) = 215 := by omega
            refine W2 ?_
            simp [*, smallM]
          · refine W2 ?_
            simp [*, smallM]
        · refine W2 ?_
          simp [*, smallM]
      · have g3 : ¬ 192 ≤ (v : Int) := by omega
        refine W2 ?_
        simp [*, smallM]
set_option maxHeartbeats 8000000 in
set_option maxRecDepth 100000 in
theorem prepared_local (l : By) (ends letters : Bool) (hl : l.length ≤ 100000) : PCalls Tryz.prog 127 [sD l, .val (.bool ends), .val (.bool letters)] (noHeap noG) fun d H' => d = sD (prepM ends letters l) := by
  refine PCalls.of_pwp Tryz.call127 Tryz.func127 rfl (by simp [Tryz.ntmps127]) ?_
  rw [Tryz.ntmps127]
  refine W2 ?_
  refine PCalls.mono (Right_spec l hl _) ?_
  intro d3 H3 hd3
  rw [hd3.1, hd3.2]
  clear hd3
  try simp [*]
  cases hc : chars l with
  | none =>
    have hp : prepM ends letters l = l := by rw [prepM, hc]
    try simp [*]
    refine W2 ?_
    simp [*]
  | some cs0 =>
    have hp : prepM ends letters l = prepC ends letters cs0 := by rw [prepM, hc]
    try simp [*]
    refine W2 ?_
    refine pwp_loop (fun m st => ∃ r cs, m = r.length ∧ st.env.n = 56 ∧ st.df = [] ∧ st.env.get 0 = sD r ∧ st.env.get 1 = .val (.bool ends) ∧ st.env.get 2 = .val (.bool letters) ∧ st.env.get 7 = .rptr 0 108 0 0 ∧ st.env.get 8 = .val (.bool (prepR ends letters cs).1) ∧ Bld st.H (.rptr 0 108 0 0) (prepR ends letters cs).2 ∧ Left l cs r ∧ ∀ c ∈ cs, c.2.length ≤ 4) l.length ⟨l, [], rfl, by simp, by simp, by simp, by simp, by simp, by simp, by simp [prepR], ?_, Left.start l, by simp⟩ ?_
    · refine ⟨0, _, _, rfl, ⟨?_, .inl rfl, .inl ⟨rfl, rfl⟩, fun _ _ _ h => (by cases h), ?_⟩⟩
      · simp
      · simp
    rintro m ⟨E, Hx, df⟩ ⟨r, cs, rfl, en, edf, e0, e1, e2, e7, e8, hB, hL, hown⟩
    simp only at en edf e0 e1 e2 e7 e8 hB
    subst edf
    have hplen := prepR_len ends letters cs hown
    have hll := hL.2
    by_cases hr : r = []
    · subst hr
      have hc2 := hL.last
      rw [hc] at hc2
      cases hc2
      clear hc
      have hp2 : prepC ends letters cs0 = (prepR ends letters cs0).2 ++ (if (prepR ends letters cs0).1 && ends then [32] else []) := rfl
      obtain ⟨⟨bt, out⟩, hst⟩ : ∃ st, prepR ends letters cs0 = st := ⟨_, rfl⟩
      rw [hst] at e8 hB hplen hp2
      simp only at e8 hB hplen hp2
      cases bt
      · refine W2 ?_
        refine PCalls.mono (BString_spec hB) ?_
        rintro d1 H1 rfl
        refine W2 ?_
        simp [*]
      · cases ends
        · refine W2 ?_
          refine PCalls.mono (BString_spec hB) ?_
          rintro d1 H1 rfl
          refine W2 ?_
          simp [*]
        · refine W2 ?_
          refine PCalls.mono (WriteString_spec hB [32] (by simp; omega)) ?_
          rintro d1 H1 ⟨hB1, rfl⟩
          refine W2 ?_
          refine PCalls.mono (BString_spec hB1) ?_
          rintro d2 H2 rfl
          refine W2 ?_
          simp [*]
    · have hr' : ¬ r = [] := hr
      cases hn : nextM r with
      | none =>
        have := hL.none hr hn
        rw [hc] at this; cases this
      | some p =>
        obtain ⟨v, n⟩ := p
        have hs := hL.step hr hn
        have hk := nextM_len hn
        have hn1 : (n : Int) ≤ (r.length : Int) := by omega
        have hn2 : n ≤ r.length := by omega
        have hownS : ∀ c ∈ cs ++ [(v, r.take n)], c.2.length ≤ 4 := by
          intro c hc'
          rcases List.mem_append.1 hc' with h | h
          · exact hown c h
          · simp at h; subst h; simp; omega
        have hpn := prepR_snoc ends letters cs (v, r.take n)
        obtain ⟨⟨bt, out⟩, hst⟩ : ∃ st, prepR ends letters cs = st := ⟨_, rfl⟩
        rw [hst] at e8 hB hplen hpn
        simp only at e8 hB hplen
        have hNn : nextD (some (v, n)) = .tup [.val (.int .i32 (v : Nat)), .val (.int .i64 (n : Nat))] := rfl
        have hH := Hold.mk (And.intro hs (And.intro hownS hn))
        have hdl : (r.drop n).length < r.length := by simp; omega
        clear hs hownS hn hst hL hown hc
        have fin : ∀ (bt' : Bool) (out' : By), prepR ends letters (cs ++ [(v, r.take n)]) = (bt', out') → ∀ (E' : Env) (H' : Heap), E'.n = 56 → E'.get 0 = sD (r.drop n) → E'.get 1 = .val (.bool ends) → E'.get 2 = .val (.bool letters) → E'.get 7 = .rptr 0 108 0 0 → E'.get 8 = .val (.bool bt') → Bld H' (.rptr 0 108 0 0) out' →
            ∃ k, k < r.length ∧ ∃ r' cs', k = r'.length ∧ E'.n = 56 ∧ ([] : List (FuncId × List D)) = [] ∧ E'.get 0 = sD r' ∧ E'.get 1 = .val (.bool ends) ∧ E'.get 2 = .val (.bool letters) ∧ E'.get 7 = .rptr 0 108 0 0 ∧ E'.get 8 = .val (.bool (prepR ends letters cs').1) ∧ Bld H' (.rptr 0 108 0 0) (prepR ends letters cs').2 ∧ Left l cs' r' ∧ ∀ c ∈ cs', c.2.length ≤ 4 := by
          intro bt' out' hp' E' H' q1 q2 q3 q4 q5 q6 q7
          refine ⟨_, hdl, r.drop n, cs ++ [(v, r.take n)], rfl, q1, rfl, q2, q3, q4, q5, ?_, ?_, hH.out.1, hH.out.2.1⟩
          · rw [hp']; exact q6
          · rw [hp']; exact q7
        refine W2 ?_
        refine PCalls.mono (Next_spec r (by omega) _) ?_
        intro d3 H3 hd3
        rw [hd3.1, hd3.2]
        clear hd3
        try simp [*]
        rw [hH.out.2.2, hNn]
        try simp [*]
        refine W2 ?_
        refine PCalls.mono (kind_spec v _) ?_
        intro d3 H3 hd3
        rw [hd3.1, hd3.2]
        clear hd3
        try simp [*]
        by_cases k1 : kindN v = 1
        · have hpp : prepStep ends letters (bt, out) (v, r.take n) = (bt, out) := by simp [prepStep, k1]
          rw [hpp] at hpn
          try simp [*]
          refine W2 ?_
          refine fin _ _ hpn _ _ ?_ ?_ ?_ ?_ ?_ ?_ hB <;> simp [*]
        · by_cases k0 : kindN v = 0
          · have hpp : prepStep ends letters (bt, out) (v, r.take n) = (true, out) := by simp [prepStep, k0]
            rw [hpp] at hpn
            try simp [*]
            refine W2 ?_
            refine fin _ _ hpn _ _ ?_ ?_ ?_ ?_ ?_ ?_ hB <;> simp [*]
          · have hpp : prepStep ends letters (bt, out) (v, r.take n) = (false, out ++ (if bt && (ends || !out.isEmpty) then [32] else []) ++ (if letters then smallM v (r.take n) else r.take n)) := by simp [prepStep, k0, k1]
            rw [hpp] at hpn
            have k1i : ¬ ((kindN v : Nat) : Int) = 1 := by omega
            have k0i : ¬ ((kindN v : Nat) : Int) = 0 := by omega
            have hsl : (smallM v (r.take n)).length ≤ 4 := by
              by_cases q : capC v = true
              · exact smallM_len _ _ q
              · rw [smallM, if_neg q]; simp; omega
            have hol : out.length + 100 ≤ 1000000 := by omega
            have hve : v < 1114112 := by omega
            cases bt
            case' false =>
              have hpn1 : prepR ends letters (cs ++ [(v, r.take n)]) = (false, out ++ (if letters then smallM v (r.take n) else r.take n)) := by rw [hpn]; simp
              clear hpn hpp
              have hB1 := hB
              have hol1 : out.length + 10 ≤ 1000000 := by omega
              try simp [*]
              refine W2 ?_
            case' true =>
              cases ends
              case' true =>
                have hpn1 : prepR true letters (cs ++ [(v, r.take n)]) = (false, (out ++ [32]) ++ (if letters then smallM v (r.take n) else r.take n)) := by rw [hpn]; simp
                clear hpn hpp
                have hol1 : (out ++ [32]).length + 10 ≤ 1000000 := by simp; omega
                try simp [*]
                refine W2 ?_
                refine PCalls.mono (WriteString_spec hB [32] (by simp; omega)) ?_
                rintro d1 H1 ⟨hB1, rfl⟩
                refine W2 ?_
              case' false =>
                try simp [*]
                refine W2 ?_
                refine PCalls.mono (BLen_spec hB) ?_
                intro d3 H3 hd3
                rw [hd3.1, hd3.2]
                clear hd3
                try simp [*]
                by_cases hz : out = []
                case' pos =>
                  have hpn1 : prepR false letters (cs ++ [(v, r.take n)]) = (false, out ++ (if letters then smallM v (r.take n) else r.take n)) := by rw [hpn, hz]; simp
                  clear hpn hpp
                  have hB1 := hB
                  have hol1 : out.length + 10 ≤ 1000000 := by omega
                  have hz2 : ¬ (0 : Int) < (out.length : Int) := by rw [hz]; simp
                  try simp [*]
                  refine W2 ?_
                case' neg =>
                  have hpn1 : prepR false letters (cs ++ [(v, r.take n)]) = (false, (out ++ [32]) ++ (if letters then smallM v (r.take n) else r.take n)) := by rw [hpn]; simp [hz]
                  clear hpn hpp
                  have hol1 : (out ++ [32]).length + 10 ≤ 1000000 := by simp; omega
                  have hz2 : 0 < out.length := List.length_pos_iff.2 hz
                  try simp [*]
                  refine W2 ?_
                  refine PCalls.mono (WriteString_spec hB [32] (by simp; omega)) ?_
                  rintro d1 H1 ⟨hB1, rfl⟩
                  refine W2 ?_
            all_goals
              cases letters
              · simp only [Bool.false_eq_true, if_false] at hpn1
                try simp [*]
                refine W2 ?_
                refine PCalls.mono (WriteString_spec hB1 (r.take n) (by simp at hol1 ⊢; omega)) ?_
                rintro d2 H2 ⟨hB2, rfl⟩
                refine W2 ?_
                refine fin _ _ hpn1 _ _ ?_ ?_ ?_ ?_ ?_ ?_ hB2 <;> simp [*]
              · simp only [if_true] at hpn1
                try simp [*]
                refine W2 ?_
                refine PCalls.mono (small_spec v (r.take n) hve _) ?_
                intro d3 H3 hd3
                rw [hd3.1, hd3.2]
                clear hd3
                try simp [*]
                try simp [*]
                refine W2 ?_
                refine PCalls.mono (WriteString_spec hB1 (smallM v (r.take n)) (by simp at hol1 ⊢; omega)) ?_
                rintro d2 H2 ⟨hB2, rfl⟩
                refine W2 ?_
                refine fin _ _ hpn1 _ _ ?_ ?_ ?_ ?_ ?_ ?_ hB2 <;> simp [*]
set_option maxRecDepth 100000 in
theorem prepared_spec (l : By) (ends letters : Bool) (hl : l.length ≤ 100000) (H : Heap) : PCalls Tryz.prog 127 [sD l, .val (.bool ends), .val (.bool letters)] H fun d H' => d = sD (prepM ends letters l) ∧ H' = H :=
  PCalls.liftG (prepared_local l ends letters hl) (fun d hd => by
    simp only [List.mem_cons, List.mem_nil_iff, or_false] at hd
    rcases hd with rfl | rfl | rfl <;> exact .val _) (.val _) H
set_option maxHeartbeats 4000000 in
set_option maxRecDepth 100000 in
theorem Fold_spec (l : By) (hl : l.length ≤ 100000) (H : Heap) : PCalls Tryz.prog 126 [sD l] H fun d H' => d = sD (prepM false true l) ∧ H' = H := by
  refine PCalls.of_pwp Tryz.call126 Tryz.func126 rfl (by simp [Tryz.ntmps126]) ?_
  rw [Tryz.ntmps126]
  refine W2 ?_
  refine PCalls.mono (prepared_spec l false true hl _) ?_
  intro d3 H3 hd3
  rw [hd3.1, hd3.2]
  clear hd3
  try simp [*]
  refine W2 ?_
  simp [*]
set_option maxHeartbeats 4000000 in
set_option maxRecDepth 100000 in
theorem Exact_spec (l : By) (hl : l.length ≤ 100000) (H : Heap) : PCalls Tryz.prog 133 [sD l] H fun d H' => d = sD (prepM false false l) ∧ H' = H := by
  refine PCalls.of_pwp Tryz.call133 Tryz.func133 rfl (by simp [Tryz.ntmps133]) ?_
  rw [Tryz.ntmps133]
  refine W2 ?_
  refine PCalls.mono (prepared_spec l false false hl _) ?_
  intro d3 H3 hd3
  rw [hd3.1, hd3.2]
  clear hd3
  try simp [*]
  refine W2 ?_
  simp [*]
end Go.Pv
namespace Go.Pv
open Go.Proofs
attribute [-simp] eLen UInt8.ofNat_add
/-- What is left behind a sign. -/
def unsign (l : By) : By := if preB l [45] then l.drop 1 else l
theorem sized_some (l : By) : (sizedM l).isSome = digsB (unsign l) := by
  unfold sizedM
  show (if digsB (unsign l) = true then _ else none).isSome = _
  cases digsB (unsign l) <;> rfl
theorem preB_one (l : By) (c : UInt8) : preB l [c] = match l with | [] => false | x :: _ => x == c := by
  cases l with
  | nil => simp [preB]
  | cons x l => simp [preB, List.take_succ_cons]; rfl
inductive Shp : Bool → By → Prop
  | zero : Shp false []
  | num (b : Bool) (x : UInt8) (ds : By) (h1 : 49 ≤ x.toNat) (h2 : x.toNat ≤ 57) : Shp b (x :: ds)
theorem dropWhile_head (p : UInt8 → Bool) (r : By) (x : UInt8) (t : By) (h : r.dropWhile p = x :: t) : p x = false ∧ x ∈ r := by
  induction r with
  | nil => cases h
  | cons y r ih =>
    rw [List.dropWhile_cons] at h
    split at h
    · obtain ⟨h1, h2⟩ := ih h; exact ⟨h1, by simp [h2]⟩
    · rename_i hq; cases h; exact ⟨by simpa using hq, by simp⟩
theorem sizedM_shape {l : By} {b : Bool} {ds : By} (h : sizedM l = some (b, ds)) : Shp b ds := by
  have hs : (sizedM l).isSome = true := by rw [h]; rfl
  rw [sized_some] at hs
  have hz : sizedM l = some (preB l [45] && !((unsign l).dropWhile (· == 48)).isEmpty, (unsign l).dropWhile (· == 48)) := by
    show (if digsB (unsign l) = true then _ else none) = _
    rw [if_pos hs]; rfl
  rw [hz] at h
  simp only [Option.some.injEq, Prod.mk.injEq] at h
  obtain ⟨hb, hd⟩ := h
  rw [hd] at hb
  cases ds with
  | nil => simp at hb; subst hb; exact .zero
  | cons x ds =>
    obtain ⟨k1, k2⟩ := dropWhile_head _ _ _ _ hd
    simp only [digsB, Bool.and_eq_true] at hs
    have k3 := List.all_eq_true.1 hs.2 x k2
    simp only [isDig, decide_eq_true_eq] at k3
    have k4 : ¬ x = 48 := by simpa using k1
    have k5 : x.toNat ≠ 48 := fun q => k4 (UInt8.toNat_inj.1 (by rw [q]; rfl))
    exact .num b x ds (by omega) (by omega)
end Go.Pv
