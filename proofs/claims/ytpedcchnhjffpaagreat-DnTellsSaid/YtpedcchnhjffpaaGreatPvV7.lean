/- A part of the proof: functions of the program, walked, or what operations come to. -/
import Derived.Test.YtpedcchnhjffpaaGreatPvV1
import Derived.Test.YtpedcchnhjffpaaGreatPvP1
import Derived.Test.YtpedcchnhjffpaaGreatPvR3
import Derived.Test.YtpedcchnhjffpaaGreatPvTameA
-- ZpvTameA ZpvDrawT
namespace Go.Pv
open Go.Proofs
attribute [-simp] eLen UInt8.ofNat_add

/-! ### The document's whole numbers -/
set_option maxRecDepth 100000 in
theorem rdigit_spec (c : UInt8) (H : Heap) : PCalls Tryz.prog 58 [.val (.int .u8 (c.toNat : Nat))] H fun d H' => d = .val (.bool (isDig c)) ∧ H' = H := of_bytes mixedO (by kernel_rfl) c H
set_option maxHeartbeats 4000000 in
set_option maxRecDepth 100000 in
theorem rValid_spec (l : By) (hl : l.length ≤ 100000) (H : Heap) : PCalls Tryz.prog 35 [sD l] H fun d H' => d = .val (.bool (sizedM l).isSome) ∧ H' = H := by
  by_cases hl0 : l = []
  · subst hl0
    exact PCalls.alone (vs := [.string ⟨#[]⟩]) (runFz_spec (n := 60) mixedO (by kernel_rfl)) H
  refine PCalls.of_pwp Tryz.call35 Tryz.func35 rfl (by simp [Tryz.ntmps35]) ?_
  rw [Tryz.ntmps35]
  rw [sized_some]
  obtain ⟨r, hr⟩ : ∃ r, unsign l = r := ⟨_, rfl⟩
  have hrl : r.length ≤ 100000 := by
    rw [← hr]; unfold unsign; split
    · simp; omega
    · exact hl
  rw [hr]
  have hp := preB_one l 45
  rcases l with _ | ⟨c, t⟩
  case' nil => exact absurd rfl hl0
  case' cons =>
    by_cases hc : (c.toNat : Int) = 45
    case' pos =>
      have hre : r = t := by
        have : c = 45 := UInt8.toNat_inj.1 (by have : (45 : UInt8).toNat = 45 := rfl; omega)
        rw [← hr]; unfold unsign; rw [hp, this]; simp
      subst hre
      have bc : byteAt (c :: r) 0 = 45 := (byteAt_of rfl).trans hc
      have hz : (1 : Int) ≤ (r.length : Int) + 1 := by omega
      clear hr hp hc
      refine W2 ?_
    case' neg =>
      have hre : r = c :: t := by
        have : ¬ c = 45 := fun q => hc (by rw [q]; rfl)
        rw [← hr]; unfold unsign; rw [hp]; simp [this]
      have bc : byteAt (c :: t) 0 = (c.toNat : Int) := byteAt_of rfl
      have hc2 : ¬ c.toNat = 45 := by omega
      clear hr hp
      refine W2 ?_
      clear bc hc hc2
      rw [← hre]
      clear hre
  all_goals
    have hrl' := hrl
    refine pwp_for (r.length) (fun k st => st.env.n = 28 ∧ st.df = [] ∧ st.H = H ∧ st.env.get 0 = sD r ∧ st.env.get 3 = .val (.int .i64 k) ∧ ((r.take k).all isDig = true)) ⟨by first | (simp; done) | (simp [*]; done), rfl, by first | rfl | simp, by first | (simp; done) | (simp [*]; done), by first | (simp; done) | (simp [*]; done), by first | (simp; done) | (simp [*]; done)⟩ ?_ ?_
    · rintro k ⟨E, Hx, df⟩ hk ⟨en, edf, eH, e0, e3, eP⟩
      simp only at en edf eH e0 e3
      subst edf; replace eH := eH.symm; subst eH
      have hki : (k : Int) < ((r.length : Nat) : Int) := by omega
      have hkw := wrapSucc k (by omega)
      obtain ⟨x, hx⟩ : ∃ x, r[k]? = some x := ⟨_, List.getElem?_eq_getElem (by omega)⟩
      have bx : byteAt r k = (x.toNat : Int) := byteAt_of hx
      have lx := toNat_lt x
      have hs := all_take_succ isDig r k x (by assumption)
      rw [eP, Bool.true_and] at hs
      refine W2 ?_
      refine PCalls.mono (rdigit_spec x _) ?_
      intro d3 H3 hd3
      rw [hd3.1, hd3.2]
      clear hd3
      try simp [*]
      cases hd : isDig x with
      | false =>
        have h5 := all_not isDig r k x (by assumption) hd
        try simp [*]
        refine W2 ?_
        simp [*, digsB]
      | true =>
        rw [hd] at hs
        try simp [*]
        refine W2 ?_
        simp [*]
    · rintro ⟨E, Hx, df⟩ ⟨en, edf, eH, e0, e3, eP⟩
      simp only at en edf eH e0 e3
      subst edf; replace eH := eH.symm; subst eH
      rw [List.take_length] at eP
      refine W2 ?_
      simp [*, digsB]
      cases r <;> simp
set_option maxHeartbeats 8000000 in
set_option maxRecDepth 100000 in
theorem rPlain_spec (l : By) (hl : l.length ≤ 100000) (H : Heap) : PCalls Tryz.prog 34 [sD l] H fun d H' => d = sD (plainM l) ∧ H' = H := by
  refine PCalls.of_pwp Tryz.call34 Tryz.func34 rfl (by simp [Tryz.ntmps34]) ?_
  rw [Tryz.ntmps34]
  obtain ⟨ans, hans⟩ : ∃ a, plainM l = a := ⟨_, rfl⟩
  rw [hans]
  refine W2 ?_
  refine PCalls.mono (rValid_spec l hl _) ?_
  intro d3 H3 hd3
  rw [hd3.1, hd3.2]
  clear hd3
  try simp [*]
  cases hv : (sizedM l).isSome with
  | false =>
    have hnn : sizedM l = none := by
      cases hq : sizedM l with
      | none => rfl
      | some q => rw [hq] at hv; cases hv
    have hp : ans = [] := by rw [← hans]; unfold plainM; rw [hnn]
    clear hans
    have hvn : (sizedM l).isNone = true := by rw [hnn]; rfl
    clear hnn
    try simp [*]
    refine W2 ?_
    simp [*]
  | true =>
    have hv2 := hv
    rw [sized_some] at hv2
    have hsz : sizedM l = some (preB l [45] && !((unsign l).dropWhile (· == 48)).isEmpty, (unsign l).dropWhile (· == 48)) := by
      show (if digsB (unsign l) = true then _ else none) = _
      rw [if_pos hv2]; rfl
    have hvn : (sizedM l).isNone = false := by rw [hsz]; rfl
    have hpl : plainM l = if ((unsign l).dropWhile (· == 48)).length = 0 then [48] else if (preB l [45] && !((unsign l).dropWhile (· == 48)).isEmpty) then 45 :: (unsign l).dropWhile (· == 48) else (unsign l).dropWhile (· == 48) := by
      unfold plainM; rw [hsz]
    have hp1 := preB_one l 45
    obtain ⟨r, hr⟩ : ∃ r, unsign l = r := ⟨_, rfl⟩
    rw [hr] at hpl hv2
    have hrne : r ≠ [] := by
      intro q; rw [q] at hv2; simp [digsB] at hv2
    have hrl : r.length ≤ 100000 := by
      rw [← hr]; unfold unsign; split
      · simp; omega
      · exact hl
    rw [hans] at hpl
    clear hans
    rcases l with _ | ⟨c, t⟩
    case' nil => exact absurd (by rw [← hr]; rfl) hrne
    case' cons =>
      by_cases hc : (c.toNat : Int) = 45
      case' pos =>
        have hcc : c = 45 := UInt8.toNat_inj.1 (by have : (45 : UInt8).toNat = 45 := rfl; omega)
        have hre : r = t := by
          rw [← hr]; unfold unsign; rw [hp1, hcc]; simp
        have hb : preB (c :: t) [45] = true := by rw [hp1, hcc]; simp
        rw [hb] at hpl
        obtain ⟨sg, hsg⟩ : ∃ sg : By, sg = [45] := ⟨_, rfl⟩
        have hpl2 : ans = if (r.dropWhile (· == 48)).length = 0 then [48] else sg ++ r.dropWhile (· == 48) := by
          rw [hpl, hsg]
          split
          · rfl
          · rename_i h
            have : (r.dropWhile (· == 48)).isEmpty = false := by simpa using h
            simp [this]
        have hsgl : sg.length ≤ 1 := by rw [hsg]; simp
        subst hre
        have bc : byteAt (c :: r) 0 = 45 := (byteAt_of rfl).trans hc
        have hz : (1 : Int) ≤ (r.length : Int) + 1 := by omega
        clear hr hp1 hc hv2 hsz hpl hb hcc
        try simp [*]
        refine W2 ?_
        clear bc hz
        rw [← hsg]
        clear hsg
      case' neg =>
        have hcc : ¬ c = 45 := fun q => hc (by rw [q]; rfl)
        have hre : r = c :: t := by
          rw [← hr]; unfold unsign; rw [hp1]; simp [hcc]
        have hb : preB (c :: t) [45] = false := by rw [hp1]; simp [hcc]
        rw [hb] at hpl
        obtain ⟨sg, hsg⟩ : ∃ sg : By, sg = [] := ⟨_, rfl⟩
        have hpl2 : ans = if (r.dropWhile (· == 48)).length = 0 then [48] else sg ++ r.dropWhile (· == 48) := by
          rw [hpl, hsg]; simp
        have hsgl : sg.length ≤ 1 := by rw [hsg]; simp
        have bc : byteAt (c :: t) 0 = (c.toNat : Int) := byteAt_of rfl
        have hc2 : ¬ c.toNat = 45 := by omega
        clear hr hp1 hv2 hsz hpl hb hcc
        try simp [*]
        refine W2 ?_
        clear bc hc hc2
        rw [← hre]
        clear hre
    all_goals
      clear hv hvn
      refine pwp_loop (fun m st => ∃ q, m = q.length ∧ st.env.n = 27 ∧ st.df = [] ∧ st.H = H ∧ st.env.get 0 = sD q ∧ st.env.get 3 = sD sg ∧ q.length ≤ r.length ∧ Hold (q ≠ [] ∧ r.dropWhile (· == 48) = q.dropWhile (· == 48))) r.length ⟨r, rfl, by simp, by simp, by simp, by simp, by simp [*], Nat.le_refl _, ⟨hrne, rfl⟩⟩ ?_
      rintro m ⟨E, Hx, df⟩ ⟨q, rfl, en, edf, eH, e0, e3, hql, hQ⟩
      simp only at en edf eH e0 e3
      subst edf; replace eH := eH.symm; subst eH
      rw [hQ.out.2] at hpl2
      clear hrne
      rcases q with _ | ⟨x, q⟩
      · exact absurd rfl hQ.out.1
      · have bx : byteAt (x :: q) 0 = (x.toNat : Int) := byteAt_of rfl
        have hb : sg.length + (q.length + 1) ≤ 9223372036854775807 := by simp at hql; omega
        by_cases hx : (x.toNat : Int) = 48
        · have hxc : x = 48 := UInt8.toNat_inj.1 (by have : (48 : UInt8).toNat = 48 := rfl; omega)
          cases q with
          | nil =>
            subst hxc
            have hd : ans = [48] := by rw [hpl2]; rfl
            clear hpl2 hsgl
            try clear hsg
            refine W2 ?_
            simp [*]
          | cons y q =>
            have hz : (1 : Int) < (q.length : Int) + 1 + 1 := by omega
            have hz2 : (1 : Int) ≤ (q.length : Int) + 1 + 1 := by omega
            have hz3 : (0 : Int) < (q.length : Int) + 1 + 1 := by omega
            have hQ2 : Hold ((y :: q : By) ≠ [] ∧ r.dropWhile (· == 48) = (y :: q).dropWhile (· == 48)) := ⟨by simp, by rw [hQ.out.2, hxc]; rfl⟩
            subst hxc
            clear hx bx hpl2
            have bx : byteAt (48 :: y :: q) 0 = 48 := rfl
            have hql2 : (y :: q).length ≤ r.length := by simp at hql ⊢; omega
            refine W2 ?_
            refine ⟨(y :: q).length, by simp, y :: q, rfl, ?_⟩
            simp [*]
            exact ⟨by simpa using hql2, ⟨hQ2.out.2⟩⟩
        · have hxc : ¬ x = 48 := fun q => hx (by rw [q]; rfl)
          have hd : ans = sg ++ x :: q := by
            rw [hpl2, List.dropWhile_cons, if_neg (by simp [hxc])]; simp [hxc]
          have hx2 : ¬ x.toNat = 48 := by omega
          clear hpl2
          try clear hsg
          by_cases hq0 : (1 : Int) < (q.length : Int) + 1
          · refine W2 ?_
            simp [*]
          · refine W2 ?_
            simp [*]
end Go.Pv
-- ZpvTameA ZpvDrawT
namespace Go.Pv
open Go.Proofs
attribute [-simp] eLen UInt8.ofNat_add

set_option maxRecDepth 100000 in
theorem rletter_spec (c : UInt8) (H : Heap) : PCalls Tryz.prog 64 [.val (.int .u8 (c.toNat : Nat))] H fun d H' => d = .val (.bool (isLet c)) ∧ H' = H := of_bytes mixedO (by kernel_rfl) c H
set_option maxRecDepth 100000 in
theorem rsign_spec (c : UInt8) (H : Heap) : PCalls Tryz.prog 90 [.val (.int .u8 (c.toNat : Nat))] H fun d H' => d = .val (.bool (isSign c)) ∧ H' = H := of_bytes mixedO (by kernel_rfl) c H
set_option maxRecDepth 100000 in
theorem rsigns_spec (l : By) (hl : l.length ≤ 100000) (H : Heap) : PCalls Tryz.prog 65 [sD l] H fun d H' => d = .val (.bool (signsB l)) ∧ H' = H := by
  refine PCalls.of_pwp Tryz.call65 Tryz.func65 rfl (by simp [Tryz.ntmps65]) ?_
  rw [Tryz.ntmps65]
  refine W2 ?_
  refine pwp_for (l.length) (fun k st => st.env.n = 18 ∧ st.df = [] ∧ st.H = H ∧ st.env.get 0 = sD l ∧ st.env.get 3 = .val (.int .i64 k) ∧ ((l.take k).all isSign = true)) ⟨by first | (simp; done) | (simp [*]; done), rfl, by first | rfl | simp, by first | (simp; done) | (simp [*]; done), by first | (simp; done) | (simp [*]; done), by first | (simp; done) | (simp [*]; done)⟩ ?_ ?_
  · rintro k ⟨E, Hx, df⟩ hk ⟨en, edf, eH, e0, e3, eP⟩
    simp only at en edf eH e0 e3
    subst edf; replace eH := eH.symm; subst eH
    have hki : (k : Int) < ((l.length : Nat) : Int) := by omega
    have hkw := wrapSucc k (by omega)
    obtain ⟨c, hc⟩ : ∃ c, l[k]? = some c := ⟨_, List.getElem?_eq_getElem (by omega)⟩
    have bc : byteAt l k = (c.toNat : Int) := byteAt_of hc
    have lc := toNat_lt c
    have hs := all_take_succ isSign l k c hc
    rw [eP, Bool.true_and] at hs
    refine W2 ?_
    refine PCalls.mono (rsign_spec c _) ?_
    intro d3 H3 hd3
    rw [hd3.1, hd3.2]
    clear hd3
    try simp [*]
    by_cases h1 : isSign c = true
    · try simp [*]
      refine W2 ?_
      simp [*]
    · have h1' : isSign c = false := by simpa using h1
      have h5 := all_not isSign l k c hc h1'
      try simp [*]
      refine W2 ?_
      simp [*, signsB]
  · rintro ⟨E, Hx, df⟩ ⟨en, edf, eH, e0, e3, eP⟩
    simp only at en edf eH e0 e3
    subst edf; replace eH := eH.symm; subst eH
    rw [List.take_length] at eP
    refine W2 ?_
    simp [*, signsB]
    cases l <;> simp
set_option maxRecDepth 100000 in
theorem rWord_spec (l : By) (hl : l.length ≤ 100000) (H : Heap) : PCalls Tryz.prog 40 [sD l] H fun d H' => d = .val (.bool (wordB l)) ∧ H' = H := by
  refine PCalls.of_pwp Tryz.call40 Tryz.func40 rfl (by simp [Tryz.ntmps40]) ?_
  rw [Tryz.ntmps40]
  rcases l with _ | ⟨c, l⟩
  · refine W2 ?_
    simp [wordB, signsB]
  · have h0 : (1 : Int) ≤ ((l.length + 1 : Nat) : Int) := by omega
    have bc : byteAt (c :: l) 0 = (c.toNat : Int) := byteAt_of rfl
    by_cases h3 : (l.length + 1 : Nat) ≤ 64
    · have h3' : ((l.length : Nat) : Int) + 1 ≤ 64 := by omega
      have h3'' : 1 ≤ ((l.length : Nat) : Int) + 1 := by omega
      refine W2 ?_
      refine PCalls.mono (rletter_spec c _) ?_
      intro d3 H3 hd3
      rw [hd3.1, hd3.2]
      clear hd3
      try simp [*]
      by_cases h2 : isLet c = true
      · simp [*]
        refine PCalls.mono (rsigns_spec (c :: l) hl _) ?_
        intro d3 H3 hd3
        rw [hd3.1, hd3.2]
        clear hd3
        try simp [*]
        try simp [*]
        refine W2 ?_
        simp [*, wordB]
      · have h2' : isLet c = false := by simpa using h2
        try simp [*]
        refine W2 ?_
        simp [*, wordB]
    · have h3' : ¬ ((l.length : Nat) : Int) + 1 ≤ 64 := by omega
      have h3'' : 1 ≤ ((l.length : Nat) : Int) + 1 := by omega
      refine W2 ?_
      simp [*, wordB]
set_option maxRecDepth 100000 in
theorem rReadDigits_spec (l : By) (hl : l.length ≤ 100000) (H : Heap) : PCalls Tryz.prog 63 [sD l] H fun d H' => d = rdD (readDigits l) ∧ H' = H := by
  refine PCalls.of_pwp Tryz.call63 Tryz.func63 rfl (by simp [Tryz.ntmps63]) ?_
  rw [Tryz.ntmps63]
  by_cases h0 : (l.length : Int) < 1
  · have hr : readDigits l = none := by
      have : l = [] := List.eq_nil_of_length_eq_zero (by omega)
      subst this; rfl
    refine W2 ?_
    simp [*, rdD]
  · obtain ⟨c, hc0⟩ : ∃ c, l[0]? = some c := ⟨_, List.getElem?_eq_getElem (by omega)⟩
    have hcd := hd0_of hc0
    have bc : byteAt l 0 = (c.toNat : Int) := byteAt_of hc0
    have hz : 0 < l.length := by omega
    have hn : l ≠ [] := List.length_pos_iff.1 hz
    by_cases h2 : 18 < (l.length : Int)
    · have hr : readDigits l = none := by
        rw [readDigits, if_neg]; simp [numOk]; intros; omega
      refine W2 ?_
      simp [*, rdD]
    · by_cases h3 : 1 < (l.length : Int) ∧ (c.toNat : Int) = 48
      · obtain ⟨h3, h4⟩ := h3
        have hr : readDigits l = none := by
          rw [readDigits, if_neg]; simp [numOk, hcd]; intros
          exact ⟨by omega, UInt8.toNat_inj.1 (by simpa using (by omega : c.toNat = 48))⟩
        refine W2 ?_
        simp [*, rdD]
      · have hr : readDigits l = if l.all isDig = true then some (digVal l) else none := by
          unfold readDigits
          congr 1
          have h6 : l.length ≤ 1 ∨ ¬ c = 48 := by
            by_cases q : l.length ≤ 1
            · exact .inl q
            · right; intro e; subst e; exact h3 ⟨by omega, rfl⟩
          have h7 : l.length ≤ 18 := by omega
          simp [numOk, hcd, hn, h6, h7]
        by_cases h4 : (c.toNat : Int) = 48
        case' pos =>
          have h5 : ¬ 1 < (l.length : Int) := fun q => h3 ⟨q, h4⟩
          clear h3
          refine W2 ?_
        case' neg =>
          refine W2 ?_
        all_goals
          clear bc
          refine pwp_for (l.length) (fun k st => st.env.n = 44 ∧ st.df = [] ∧ st.H = H ∧ st.env.get 0 = sD l ∧ st.env.get 5 = .val (.int .i64 k) ∧ st.env.get 4 = .val (.int .i64 (digVal (l.take k) : Nat)) ∧ (Hold ((l.take k).all isDig = true))) ⟨by first | (simp; done) | (simp [*]; done), rfl, by first | rfl | simp, by first | (simp; done) | (simp [*]; done), by first | (simp; done) | (simp [*]; done), by first | (simp; done) | (simp [*]; done), by first | done | exact ⟨by simp⟩ | simp⟩ ?_ ?_
          · rintro k ⟨E, Hx, df⟩ hk ⟨en, edf, eH, e0, e5, e4, eP⟩
            simp only at en edf eH e0 e5 e4
            subst edf; replace eH := eH.symm; subst eH
            have hki : (k : Int) < ((l.length : Nat) : Int) := by omega
            have hkw := wrapSucc k (by omega)
            obtain ⟨x, hx⟩ : ∃ x, l[k]? = some x := ⟨_, List.getElem?_eq_getElem (by omega)⟩
            have bx : byteAt l k = (x.toNat : Int) := byteAt_of hx
            have lx := toNat_lt x
            have hs := all_take_succ isDig l k x (by assumption)
            rw [eP.out, Bool.true_and] at hs
            have hf : digVal (l.take k) < 100000000000000000 := by
              have h1 := digVal_lt _ eP.out
              have h3 : (l.take k).length ≤ 17 := by rw [List.length_take]; omega
              exact Nat.lt_of_lt_of_le h1 (Nat.pow_le_pow_right (by decide) h3)
            have hv := digVal_take l k x (by assumption)
            obtain ⟨v, hvk⟩ : ∃ v, digVal (l.take k) = v := ⟨_, rfl⟩
            rw [hvk] at hv hf e4
            refine W2 ?_
            refine PCalls.mono (rdigit_spec x _) ?_
            intro d3 H3 hd3
            rw [hd3.1, hd3.2]
            clear hd3
            try simp [*]
            by_cases hdx : isDig x = true
            · have hx := hdx
              simp only [isDig, decide_eq_true_eq] at hx
              have w1 := wrapI ((v : Int) * 10) (by omega) (by omega)
              have w2 := wrapI (x.toNat : Int) (by omega) (by omega)
              have w3 := wrapI ((v : Int) * 10 + (x.toNat : Int)) (by omega) (by omega)
              have w4 : IntKind.i64.wrap ((v : Int) * 10 + (x.toNat : Int) - 48) = ((v * 10 + (x.toNat - 48) : Nat) : Int) := by rw [wrapI _ (by omega) (by omega)]; omega
              rw [hdx] at hs
              have hq := Hold.mk hs
              clear hs
              try simp [*]
              refine W2 ?_
              simp [*]
              exact ⟨by simpa using hq.out⟩
            · have hdx' : isDig x = false := by simpa using hdx
              have h5 := all_not isDig l k x (by assumption) hdx'
              rw [h5] at hr
              try simp [*]
              refine W2 ?_
              simp [*, rdD]
          · rintro ⟨E, Hx, df⟩ ⟨en, edf, eH, e0, e5, e4, eP⟩
            simp only at en edf eH e0 e5 e4
            subst edf; replace eH := eH.symm; subst eH
            rw [List.take_length] at e4 eP
            rw [eP.out] at hr
            refine W2 ?_
            simp [*, rdD]
end Go.Pv
-- ZpvTameA ZpvDrawT
namespace Go.Pv
open Go.Proofs
attribute [-simp] eLen UInt8.ofNat_add

/-! ### Parts, as the document's answer finds them -/
theorem set_last {α : Type} (l : List α) (h : l ≠ []) (x : α) : l.set (l.length - 1) x = l.dropLast ++ [x] := by
  have h1 : l = l.dropLast ++ [l.getLast h] := (List.dropLast_concat_getLast h).symm
  have h2 : l.length - 1 = l.dropLast.length := by simp
  rw [h2]
  conv => lhs; rw [h1]
  have h3 : (l.dropLast ++ [l.getLast h]).dropLast.length = l.dropLast.length := by simp
  rw [h3, List.set_append_right _ _ (Nat.le_refl _)]
  simp
set_option maxHeartbeats 4000000 in
set_option maxRecDepth 100000 in
theorem rparts_local (l : By) (c : UInt8) (hl : l.length ≤ 100000) : PCalls Tryz.prog 62 [sD l, .val (.int .u8 (c.toNat : Nat))] (noHeap noG) fun d H' => fz Tryz.prog 3 H' d = some (.slice 0 9 ((splitB c l).map sD)) := by
  refine PCalls.of_pwp Tryz.call62 Tryz.func62 rfl (by simp [Tryz.ntmps62]) ?_
  rw [Tryz.ntmps62]
  refine W2 ?_
  refine pwp_for (l.length) (fun k st => st.env.n = 40 ∧ st.df = [] ∧ st.env.get 0 = sD l ∧ st.env.get 1 = .val (.int .u8 (c.toNat : Nat)) ∧ st.env.get 6 = .val (.int .i64 (k : Nat)) ∧ (∃ i, i < st.H.nx ∧ st.env.get 5 = .row i 9 0 (splitB c (l.take k)).length ∧ st.H.get i = some (.row 9 ((splitB c (l.take k)).map sD)))) ⟨by first | (simp; done) | (simp [*]; done), rfl, by first | (simp; done) | (simp [*]; done), by first | (simp; done) | (simp [*]; done), by first | (simp; done) | (simp [*]; done), ?_⟩ ?_ ?_
  · exact ⟨0, by simp, by simp [splitB], by simp [splitB]⟩
  · rintro k ⟨E, Hx, df⟩ hk ⟨en, edf, e0, e1, e6, eP⟩
    simp only at en edf e0 e1 e6
    subst edf
    have hki : (k : Int) < ((l.length : Nat) : Int) := by omega
    have hkw := wrapSucc k (by omega)
    obtain ⟨i, hi, e5, hgi⟩ := eP
    simp only at hi e5 hgi
    obtain ⟨x, hx⟩ : ∃ x, l[k]? = some x := ⟨_, List.getElem?_eq_getElem (by omega)⟩
    have bx : byteAt l k = (x.toNat : Int) := byteAt_of hx
    have lx := toNat_lt x
    have hsn := splitB_snoc c x (l.take k)
    rw [show l.take k ++ [x] = l.take (k + 1) by rw [List.take_add_one, hx]; rfl] at hsn
    have hne := splitB_ne c (l.take k)
    have hcnt : (splitB c (l.take k)).length ≤ 100001 := by
      rw [splitB_len]
      have := List.count_le_length (a := c) (l := l.take k)
      rw [List.length_take] at this; omega
    obtain ⟨S, hS⟩ : ∃ S, splitB c (l.take k) = S := ⟨_, rfl⟩
    obtain ⟨S', hS'⟩ : ∃ S', splitB c (l.take (k + 1)) = S' := ⟨_, rfl⟩
    simp only [hS, hS'] at hsn hne hcnt hgi e5
    obtain ⟨m, hm⟩ : ∃ m, S.length = m + 1 := ⟨S.length - 1, by have := List.length_pos_iff.2 hne; omega⟩
    by_cases hxc : x = c
    · rw [if_pos hxc] at hsn
      subst hxc
      have hG : Grow Hx (.row i 9 0 (S.map sD).length) 9 (S.map sD) := .inr ⟨i, hi, rfl, hgi, by simp [hne]⟩
      rw [List.length_map, hm] at hG
      have hz := Hold.mk hsn
      clear hsn
      refine W2 ?_
      refine oK_grow hG ?_ ?_
      · first | (simp; done) | (simp; omega) | omega
      intro d2 H2 hG2 hn2 hH2 hf2
      try simp [*]
      refine W2 ?_
      simp [*]
      rcases hG2 with ⟨hb, _⟩ | ⟨i2, hi2, h2, hg2, _⟩
      · simp at hb
      · have hz := hz.out
        refine ⟨i2, by omega, ?_, ?_⟩
        · rw [h2, hz]; simp
        · rw [hg2, hz]; simp
    · rw [if_neg hxc] at hsn
      have hxi : ¬ (x.toNat : Int) = (c.toNat : Int) := fun q => hxc (UInt8.toNat_inj.1 (by omega))
      have hxn : ¬ x.toNat = c.toNat := fun q => hxc (UInt8.toNat_inj.1 q)
      obtain ⟨z, hz⟩ : ∃ z, S.getLast hne = z := ⟨_, rfl⟩
      rw [hz] at hsn
      have hzl : z.length ≤ 100000 := by
        have h1 := splitB_parts c (l.take k) z (by rw [hS, ← hz]; exact List.getLast_mem hne)
        rw [List.length_take] at h1; omega
      have hSm : S[m]? = some z := by
        rw [← hz, List.getLast_eq_getElem, ← List.getElem?_eq_getElem]; congr 1; omega
      have hW : (S.map sD)[m]? = some (sD z) := by rw [List.getElem?_map, hSm]; rfl
      have hset : (S.map sD).set m (sD (z ++ [x])) = S'.map sD := by
        rw [hsn, ← List.map_set]
        congr 1
        rw [← set_last S hne]
        congr 1; omega
      have hSl : S'.length = m + 1 := by rw [hsn]; simp; omega
      rw [hm] at e5
      have hWl : (S.map sD).length = m + 1 := by simp [hm]
      generalize S.map sD = W at *
      simp only [sD] at hW hset
      have hWg := get_of hW
      have w1 := wrapI (m : Int) (by omega) (by omega)
      have w2 : IntKind.i64.wrap ((m : Int) + 1 - 1) = (m : Int) := by rw [wrapI _ (by omega) (by omega)]; omega
      have w3 := wrapI ((k : Int) + 1) (by omega) (by omega)
      have w4 : (k : Int) ≤ (k : Int) + 1 := by omega
      have w5 : (k : Int) + 1 ≤ (l.length : Int) := by omega
      have w6 : (m : Int) < (m : Int) + 1 := by omega
      have w7 : (l.take (k + 1)).drop k = [x] := by rw [List.take_add_one, hx]; exact List.drop_left' (by simp; omega)
      have w8 : z.length + 1 ≤ 9223372036854775807 := by omega
      have kp := Hold.mk (And.intro hS (And.intro hS' hsn))
      clear hS hS' hsn hne hz hSm
      refine W2 ?_
      simp [*]
      exact ⟨i, hi, ⟨rfl, by rw [kp.out.2.1, hSl]⟩, by rw [kp.out.2.1, if_pos rfl]⟩
  · rintro ⟨E, Hx, df⟩ ⟨en, edf, e0, e1, e6, eP⟩
    simp only at en edf e0 e1 e6
    subst edf
    obtain ⟨i, hi, e5, hgi⟩ := eP
    simp only [List.take_length] at hi e5 hgi
    have hne := splitB_ne c l
    have hG : Grow Hx (.row i 9 0 ((splitB c l).map sD).length) 9 ((splitB c l).map sD) := .inr ⟨i, hi, rfl, hgi, by simp [hne]⟩
    have hfz := hG.fz (n := 2) (fz_vals (P := Tryz.prog) (fun s : By => .string ⟨s.toArray⟩) 1 _ (splitB c l))
    rw [List.length_map, frD, if_neg (by simp [hne])] at hfz
    generalize splitB c l = S at *
    refine W2 ?_
    simp [*]
    try exact hfz
set_option maxRecDepth 100000 in
theorem rparts_spec (l : By) (c : UInt8) (hl : l.length ≤ 100000) (H : Heap) : PCalls Tryz.prog 62 [sD l, .val (.int .u8 (c.toNat : Nat))] H fun d H' => d = .slice 0 9 ((splitB c l).map sD) ∧ H' = H :=
  PCalls.liftG (PCalls.frozen (rparts_local l c hl)) (fun d hd => by
    simp only [List.mem_cons, List.mem_nil_iff, or_false] at hd
    rcases hd with rfl | rfl <;> exact .val _) (pure_strs _ _ _) H
theorem joinB_len (c : UInt8) (b : Nat) : ∀ ps : List By, (∀ p ∈ ps, p.length ≤ b) → (joinB c ps).length ≤ ps.length * (b + 1)
  | [], _ => by simp [joinB]
  | [p], h => by have := h p (by simp); simp [joinB]; omega
  | p :: q :: ps, h => by
    have h1 := h p (by simp)
    have h2 := joinB_len c b (q :: ps) (fun x hx => h x (by simp [hx]))
    rw [joinB_cons _ _ _ (by simp), List.length_append, List.length_cons]
    simp only [List.length_cons, Nat.succ_mul, Nat.add_mul] at *
    omega
theorem arcs_len {l : By} (h : (splitB 46 l).all okP = true) (h2 : (splitB 46 l).length ≤ 16) : l.length ≤ 176 := by
  have h1 := joinB_len 46 10 (splitB 46 l) (fun p hp => (okP_read (List.all_eq_true.1 h p hp)).2.1)
  rw [join_split] at h1
  omega
set_option maxHeartbeats 4000000 in
set_option maxRecDepth 100000 in
theorem rArcs_local (l : By) (hl : l.length ≤ 100000) : PCalls Tryz.prog 39 [sD l] (noHeap noG) fun d H' => fz Tryz.prog 4 H' d = some (arcsD (arcsM l)) := by
  refine PCalls.of_pwp Tryz.call39 Tryz.func39 rfl (by simp [Tryz.ntmps39]) ?_
  rw [Tryz.ntmps39]
  have hnn : arcsM l = none → arcsD (arcsM l) = .tup [.slice 1 0 [], .val (.bool false)] := fun h => by rw [h]; rfl
  have hno := @arcs_none l
  have hlen200 := @arcs_len l
  have hps := splitB_parts 46 l
  have hdef : arcsM l = if (splitB 46 l).all okP = true then (if arcOk ((splitB 46 l).map digVal) = true then some ((splitB 46 l).map digVal) else none) else none := rfl
  obtain ⟨ps, hpe⟩ : ∃ ps, splitB 46 l = ps := ⟨_, rfl⟩
  obtain ⟨r, hr⟩ : ∃ r, arcsM l = r := ⟨_, rfl⟩
  have hSp := rparts_spec l 46 hl
  have h46 : (((46 : UInt8).toNat : Nat) : Int) = 46 := rfl
  rw [h46] at hSp
  have hpl : ps.length ≤ 100001 := by rw [← hpe, splitB_len]; have := List.count_le_length (a := (46 : UInt8)) (l := l); omega
  rw [hpe] at hno hps hdef hSp hlen200
  rw [hr] at hno hdef hnn ⊢
  by_cases h200 : 200 < (l.length : Int)
  · have hrn : r = none := by
      by_cases q : ps.all okP = true
      · refine hno (.inr ?_)
        rcases Nat.lt_or_ge 16 ps.length with q2 | q2
        · exact q2
        · have := hlen200 q q2; omega
      · exact hno (.inl (by simpa using q))
    rw [hnn hrn]
    clear hno hnn hlen200 hps hdef hSp
    refine W2 ?_
    simp [*]
    rfl
  clear hlen200
  obtain ⟨N, hN⟩ : ∃ N, ps.map (fun p => natD (digVal p)) = N := ⟨_, rfl⟩
  have hNl : N.length = ps.length := by rw [← hN]; simp
  refine W2 ?_
  refine PCalls.mono (hSp _) ?_
  intro d3 H3 hd3
  rw [hd3.1, hd3.2]
  clear hd3
  try simp [*]
  refine W2 ?_
  refine pwp_for (ps.length) (fun k st => st.env.n = 69 ∧ st.df = [] ∧ st.env.get 4 = .slice 0 9 (ps.map sD) ∧ st.env.get 6 = .val (.int .i64 (k : Nat)) ∧ (Hold ((ps.take k).all okP = true) ∧ ∃ d, st.env.get 5 = d ∧ Grow st.H d 3 (N.take k))) ⟨by first | (simp; done) | (simp [*]; done), rfl, by first | (simp; done) | (simp [*]; done), by first | (simp; done) | (simp [*]; done), ?_⟩ ?_ ?_
  · exact ⟨⟨by simp⟩, .slice 1 0 [], by simp, by simpa using Grow.nil _ _⟩
  · rintro k ⟨E, Hx, df⟩ hk ⟨en, edf, e4, e6, eP⟩
    simp only at en edf e4 e6
    subst edf
    have hki : (k : Int) < ((ps.length : Nat) : Int) := by omega
    have hkw := wrapSucc k (by omega)
    obtain ⟨⟨hall⟩, d, e5, hG⟩ := eP
    simp only at e5 hG
    obtain ⟨p, hp⟩ : ∃ p, ps[k]? = some p := ⟨_, List.getElem?_eq_getElem hk⟩
    have hpp := hps p (List.mem_of_getElem? hp)
    have hpm : (ps.map sD)[k]? = some (sD p) := by rw [List.getElem?_map, hp]; rfl
    have hgd : (ps.map sD).getD k .undef = sD p := by rw [List.getD, hpm]; rfl
    have hgl := get_of hpm
    have hgl2 := get_of hp
    have hml : (ps.map sD).length = ps.length := by simp
    have hs := all_take_succ' okP ps k p hp
    rw [hall, Bool.true_and] at hs
    have hNk : N[k]? = some (natD (digVal p)) := by rw [← hN, List.getElem?_map, hp]; rfl
    have htm : N.take (k + 1) = N.take k ++ [natD (digVal p)] := by rw [List.take_add_one, hNk]; rfl
    simp only [natD] at htm hNk
    have hR := rReadDigits_spec p (by omega)
    have hb : (N.take k).length = k := by simp; omega
    have kp := Hold.mk (And.intro hall (And.intro hno hnn))
    clear hall hno hnn hps hdef hpp hSp
    simp only [sD] at hgd hgl
    by_cases ho : okP p = true
    · obtain ⟨hrd, hp10, hlt⟩ := okP_read ho
      have hp10' : ¬ 10 < (p.length : Int) := by omega
      rw [ho] at hs
      simp only [hrd, rdD, Option.getD, Option.isSome] at hR
      refine W2 ?_
      refine PCalls.mono (hR _) ?_
      intro d3 H3 hd3
      rw [hd3.1, hd3.2]
      clear hd3
      try simp [*]
      try simp [*]
      refine W2 ?_
      refine oK_grow hG ?_ ?_
      · first | (simp; done) | (simp; omega) | omega
      intro d2 H2 hG2 hn2 hH2 hf2
      try simp [*]
      refine W2 ?_
      simp [*]
      have hh : Hold ((ps.take (k + 1)).all okP = true) := ⟨hs⟩
      first
      | exact ⟨trivial⟩
      | exact hG2
      | exact ⟨by simpa using hh, hG2⟩
      | (trace_state; done)
    · have ho' : okP p = false := by simpa using ho
      have hrn : r = none := kp.out.2.1 (.inl (all_not' okP ps k p hp ho'))
      have hfin := kp.out.2.2 hrn
      rw [hfin]
      by_cases hp10 : 10 < (p.length : Int)
      · obtain ⟨o, hrd⟩ : ∃ o, readDigits p = o := ⟨_, rfl⟩
        rw [hrd] at hR
        rcases o with _ | n
        · simp only [rdD, Option.getD, Option.isSome] at hR
          refine W2 ?_
          refine PCalls.mono (hR _) ?_
          intro d3 H3 hd3
          rw [hd3.1, hd3.2]
          clear hd3
          try simp [*]
          try simp [*]
          refine W2 ?_
          simp [*]
          rfl
        · simp only [rdD, Option.getD, Option.isSome] at hR
          refine W2 ?_
          refine PCalls.mono (hR _) ?_
          intro d3 H3 hd3
          rw [hd3.1, hd3.2]
          clear hd3
          try simp [*]
          try simp [*]
          refine W2 ?_
          simp [*]
          rfl
      · have hrd := okP_not ho' (by omega)
        simp only [hrd, rdD, Option.getD, Option.isSome] at hR
        refine W2 ?_
        refine PCalls.mono (hR _) ?_
        intro d3 H3 hd3
        rw [hd3.1, hd3.2]
        clear hd3
        try simp [*]
        try simp [*]
        refine W2 ?_
        simp [*]
        rfl
  · rintro ⟨E, Hx, df⟩ ⟨en, edf, e4, e6, eP⟩
    simp only at en edf e4 e6
    subst edf
    obtain ⟨⟨hall⟩, d, e5, hG⟩ := eP
    simp only [List.take_length] at e5 hG hall
    rw [hall, if_pos rfl] at hdef
    have hlen := lenG71 hG
    rw [List.take_of_length_le (by omega)] at hG hlen
    rw [hNl] at hlen
    rw [← hN] at hG
    clear hps hSp hN hNl
    rcases ps with _ | ⟨pa, ps⟩
    · exact absurd hpe (splitB_ne _ _)
    rcases ps with _ | ⟨pb, ps⟩
    · have hrn : r = none := by rw [hdef]; rfl
      rw [hnn hrn]
      clear hno
      simp only [List.length_cons, List.length_nil, Nat.zero_add] at *
      refine W2 ?_
      simp [*]
      rfl
    · rcases hG with ⟨hb, _⟩ | ⟨i, hi, rfl, hgi, _⟩
      · simp at hb
      have hl2 : ¬ ((ps.length : Int) + 1 + 1 < 2) := by omega
      have hl3 : (1 : Int) < (ps.length : Int) + 1 + 1 := by omega
      have hl4 : (0 : Int) < (ps.length : Int) + 1 + 1 := by omega
      by_cases h16 : 16 < (ps.length : Int) + 1 + 1
      · have hrn : r = none := hno (.inr (by simp; omega))
        rw [hnn hrn]
        clear hno hnn hdef
        simp only [List.map_cons, List.length_cons, List.length_map] at *
        refine W2 ?_
        simp [*]
        rfl
      clear hno
      simp only [List.map_cons, List.length_cons, List.length_map] at *
      have hr14 : (List.map digVal ps).length ≤ 14 := by simp; omega
      have hao : arcOk (digVal pa :: digVal pb :: List.map digVal ps) = (decide (digVal pa ≤ 2) && (decide (2 ≤ digVal pa) || decide (digVal pb < 40))) := by
        simp only [arcOk, hr14, decide_true, Bool.true_and]
      rw [hao] at hdef
      have hfz : ∀ H : Heap, mapO (fz Tryz.prog 2 H) (natD (digVal pa) :: natD (digVal pb) :: List.map (fun p => natD (digVal p)) ps) = some (natD (digVal pa) :: natD (digVal pb) :: List.map (fun p => natD (digVal p)) ps) := fun H =>
        fz_vals (fun p : By => .int .i64 ((digVal p : Nat) : Int)) 1 H (pa :: pb :: ps)
      have kp := Hold.mk hfz
      generalize hA : List.map (fun p => natD (digVal p)) ps = A at *
      have hAl : A.length = ps.length := by rw [← hA]; simp
      clear hao hr14 hfz hlen
      generalize digVal pa = a at *
      generalize digVal pb = b at *
      have fin : r = some (a :: b :: List.map digVal ps) → fz Tryz.prog 4 Hx (.tup [.row i 3 0 (ps.length + 1 + 1), .val (.bool true)]) = some (arcsD (some (a :: b :: List.map digVal ps))) := fun _ => by
        have g : Grow Hx (.row i 3 0 (natD a :: natD b :: A).length) 3 (natD a :: natD b :: A) := .inr ⟨i, hi, rfl, hgi, by simp⟩
        have h2 := fz_two (n := 2) (v := .bool true) (g.fz (kp.out _))
        simp only [List.length_cons, hAl] at h2
        rw [h2, arcsD, frD, if_neg (by simp), ← hA]
        simp
      simp only [natD] at hgi
      by_cases h1 : 2 < (a : Int)
      · have hrn : r = none := by rw [hdef]; simp; omega
        rw [hnn hrn]
        clear hdef hnn
        refine W2 ?_
        simp [*]
        rfl
      · by_cases h2 : (a : Int) < 2
        · by_cases h3 : 39 < (b : Int)
          · have hrn : r = none := by rw [hdef]; simp; omega
            rw [hnn hrn]
            clear hdef hnn
            refine W2 ?_
            simp [*]
            rfl
          · have hrs : r = some (a :: b :: List.map digVal ps) := by rw [hdef, if_pos]; simp; omega
            clear hdef hnn
            refine W2 ?_
            simp [*]
            try exact fin hrs
        · have hrs : r = some (a :: b :: List.map digVal ps) := by rw [hdef, if_pos]; simp; omega
          clear hdef hnn
          refine W2 ?_
          simp [*]
          try exact fin hrs
set_option maxRecDepth 100000 in
theorem rArcs_spec (l : By) (hl : l.length ≤ 100000) (H : Heap) : PCalls Tryz.prog 39 [sD l] H fun d H' => d = arcsD (arcsM l) ∧ H' = H :=
  PCalls.liftG (PCalls.frozen (rArcs_local l hl)) (fun d hd => by
    simp only [List.mem_cons, List.mem_nil_iff, or_false] at hd
    subst hd; exact .val _) (pure_arcs _) H
end Go.Pv
-- ZpvTameA ZpvDrawT
namespace Go.Pv
open Go.Proofs
attribute [-simp] eLen UInt8.ofNat_add

/-! ### The document's fold -/
set_option maxHeartbeats 4000000 in
set_option maxRecDepth 100000 in
theorem rblank_spec (v : Nat) (H : Heap) : PCalls Tryz.prog 87 [.val (.int .i32 (v : Nat))] H fun d H' => d = .val (.bool (blankC v)) ∧ H' = H := by
  refine PCalls.of_pwp Tryz.call87 Tryz.func87 rfl (by simp [Tryz.ntmps87]) ?_
  rw [Tryz.ntmps87]
  have hb : blankC v = ((decide (9 ≤ (v : Int)) && decide ((v : Int) ≤ 13)) || decide ((v : Int) = 32) || decide ((v : Int) = 133) || decide ((v : Int) = 160)) := by
    unfold blankC
    congr 1
    · congr 1
      · congr 1
        · congr 1 <;> rw [decide_eq_decide] <;> omega
        · rw [decide_eq_decide]; omega
      · rw [decide_eq_decide]; omega
    · rw [decide_eq_decide]; omega
  rw [hb]
  clear hb
  by_cases g1 : 9 ≤ (v : Int)
  · by_cases g2 : (v : Int) ≤ 13
    · refine W2 ?_
      simp [*]
    · by_cases g3 : (v : Int) = 32
      · refine W2 ?_
        simp [*]
      · by_cases g4 : (v : Int) = 133
        · refine W2 ?_
          simp [*]
        · refine W2 ?_
          simp [*]
  · have g3 : ¬ (v : Int) = 32 := by omega
    have g4 : ¬ (v : Int) = 133 := by omega
    have g5 : ¬ (v : Int) = 160 := by omega
    refine W2 ?_
    simp [*]
set_option maxHeartbeats 4000000 in
set_option maxRecDepth 100000 in
theorem rnothing_spec (v : Nat) (H : Heap) : PCalls Tryz.prog 86 [.val (.int .i32 (v : Nat))] H fun d H' => d = .val (.bool (nothC v)) ∧ H' = H := by
  refine PCalls.of_pwp Tryz.call86 Tryz.func86 rfl (by simp [Tryz.ntmps86]) ?_
  rw [Tryz.ntmps86]
  by_cases g1 : (v : Int) < 32
  · have h2 : ¬ (v : Int) = 127 := by omega
    have h3 : ¬ (v : Int) = 173 := by omega
    have h4 : ¬ (v : Int) = 8203 := by omega
    have hn : nothC v = !blankC v := by simp [nothC, show v < 32 by omega, show ¬ v = 127 by omega, show ¬ v = 173 by omega, show ¬ v = 8203 by omega]
    cases hb : blankC v
    · rw [hb] at hn
      refine W2 ?_
      refine PCalls.mono (rblank_spec v _) ?_
      intro d3 H3 hd3
      rw [hd3.1, hd3.2]
      clear hd3
      try simp [*]
      try simp [*]
      refine W2 ?_
      simp [*]
    · rw [hb] at hn
      refine W2 ?_
      refine PCalls.mono (rblank_spec v _) ?_
      intro d3 H3 hd3
      rw [hd3.1, hd3.2]
      clear hd3
      try simp [*]
      try simp [*]
      refine W2 ?_
      simp [*]
  · by_cases h2 : (v : Int) = 127
    · have hn : nothC v = true := by simp [nothC]; omega
      refine W2 ?_
      simp [*]
    · by_cases h3 : (v : Int) = 173
      · have hn : nothC v = true := by simp [nothC]; omega
        refine W2 ?_
        simp [*]
      · by_cases h4 : (v : Int) = 8203
        · have hn : nothC v = true := by simp [nothC]; omega
          refine W2 ?_
          simp [*]
        · have hn : nothC v = false := by simp [nothC]; omega
          refine W2 ?_
          simp [*]
set_option maxHeartbeats 4000000 in
set_option maxRecDepth 100000 in
theorem rsmall_local (v : Nat) (own : By) (ho : OwnC v own) (hv : v < 1114112) : PCalls Tryz.prog 88 [sD own, .val (.int .i32 (v : Nat))] (noHeap noG) fun d H' => d = sD (smallM v own) := by
  refine PCalls.of_pwp Tryz.call88 Tryz.func88 rfl (by simp [Tryz.ntmps88]) ?_
  rw [Tryz.ntmps88]
  by_cases h1 : 65 ≤ v ∧ v ≤ 90
  · have g1 : 65 ≤ (v : Int) := by omega
    have g2 : (v : Int) ≤ 90 := by omega
    have hc : capC v = true := by simp [capC]; omega
    have hs : smallM v own = [UInt8.ofNat (v + 32)] := by rw [smallM, if_pos hc, encode_small v (by omega) (by omega)]
    have w := wrapR ((v : Int) + 32) (by omega) (by omega)
    have w2 := wrapB ((v : Int) + 32) (by omega) (by omega)
    have hT : eToStr [.val (.int .u8 ((v : Int) + 32))] = some (.val (.string ⟨#[UInt8.ofNat (v + 32)]⟩)) := by
      have : ((v : Int) + 32).toNat = v + 32 := by omega
      simp [eToStr, isByteD, toByteD, this]
    refine W2 ?_
    simp [*]
  · by_cases h2 : 192 ≤ v ∧ v ≤ 222
    · have g1 : 65 ≤ (v : Int) := by omega
      have g2 : ¬ (v : Int) ≤ 90 := by omega
      have g3 : 192 ≤ (v : Int) := by omega
      have g4 : (v : Int) ≤ 222 := by omega
      by_cases h5 : v = 215
      · subst h5
        have hs : smallM 215 own = own := by simp [smallM, show capC 215 = false from rfl]
        clear ho
        refine W2 ?_
        simp [*]
      · have g5 : ¬ (v : Int) = 215 := by omega
        have hc : capC v = true := by simp [capC]; omega
        have hs : smallM v own = [195, UInt8.ofNat (v - 32)] := by rw [smallM, if_pos hc, encode_accent v (by omega) (by omega)]
        have hown := ho (by omega) (by omega)
        subst hown
        have b1 : byteAt [195, UInt8.ofNat (v - 64)] 1 = ((v - 64 : Nat) : Int) := by
          simp [byteAt]; omega
        have w2 : IntKind.u8.wrap (((v - 64 : Nat) : Int) + 32) = ((v - 32 : Nat) : Int) := by rw [wrapB _ (by omega) (by omega)]; omega
        have hT : eToStr [.val (.int .u8 195), .val (.int .u8 ((v - 32 : Nat) : Int))] = some (.val (.string ⟨#[195, UInt8.ofNat (v - 32)]⟩)) := by
          simp [eToStr, isByteD, toByteD]
        refine W2 ?_
        refine ⟨rfl, ?_⟩
        refine W2 ?_
        simp [*]
    · have hc : capC v = false := by simp [capC]; omega
      have hs : smallM v own = own := by simp [smallM, hc]
      by_cases g1 : 65 ≤ (v : Int)
      · have g2 : ¬ (v : Int) ≤ 90 := by omega
        by_cases g3 : 192 ≤ (v : Int)
        · have g4 : ¬ (v : Int) ≤ 222 := by omega
          refine W2 ?_
          simp [*]
        · refine W2 ?_
          simp [*]
      · have g3 : ¬ 192 ≤ (v : Int) := by omega
        refine W2 ?_
        simp [*]
set_option maxRecDepth 100000 in
theorem rsmall_spec (v : Nat) (own : By) (ho : OwnC v own) (hv : v < 1114112) (H : Heap) : PCalls Tryz.prog 88 [sD own, .val (.int .i32 (v : Nat))] H fun d H' => d = sD (smallM v own) ∧ H' = H :=
  PCalls.liftG (rsmall_local v own ho hv) (fun d hd => by
    simp only [List.mem_cons, List.mem_nil_iff, or_false] at hd
    rcases hd with rfl | rfl <;> exact .val _) (.val _) H
set_option maxHeartbeats 8000000 in
set_option maxRecDepth 100000 in
theorem rprepared_spec (l : By) (ends letters : Bool) (hl : l.length ≤ 100000) (H : Heap) : PCalls Tryz.prog 56 [sD l, .val (.bool ends), .val (.bool letters)] H fun d H' => d = sD (prepM ends letters l) ∧ H' = H := by
  refine PCalls.of_pwp Tryz.call56 Tryz.func56 rfl (by simp [Tryz.ntmps56]) ?_
  rw [Tryz.ntmps56]
  refine W2 ?_
  refine PCalls.mono (rCount_spec l hl _) ?_
  intro d3 H3 hd3
  rw [hd3.1, hd3.2]
  clear hd3
  try simp [*]
  cases hc : chars l with
  | none =>
    have hp : prepM ends letters l = l := by rw [prepM, hc]
    have h1 : countM l = -1 := by rw [countM, hc]
    try simp [*]
    refine W2 ?_
    simp [*]
  | some cs0 =>
    have hp : prepM ends letters l = prepC ends letters cs0 := by rw [prepM, hc]
    have h1 : countM l = cs0.length := by rw [countM, hc]
    have h1' : ¬ countM l < 0 := by omega
    try simp [*]
    refine W2 ?_
    clear h1 h1'
    refine pwp_loop (fun m st => ∃ r cs, m = r.length ∧ st.env.n = 59 ∧ st.df = [] ∧ st.H = H ∧ st.env.get 0 = sD r ∧ st.env.get 1 = .val (.bool ends) ∧ st.env.get 2 = .val (.bool letters) ∧ st.env.get 7 = sD (prepR ends letters cs).2 ∧ st.env.get 8 = .val (.bool (prepR ends letters cs).1) ∧ st.env.get 9 = .val (.bool (prepR ends letters cs).2.isEmpty) ∧ Left l cs r ∧ ∀ c ∈ cs, 0 < c.2.length ∧ c.2.length ≤ 4) l.length ⟨l, [], rfl, by simp, by simp, by simp, by simp, by simp, by simp, by simp [prepR], by simp [prepR], by simp [prepR], Left.start l, by simp⟩ ?_
    rintro m ⟨E, Hx, df⟩ ⟨r, cs, rfl, en, edf, eH, e0, e1, e2, e7, e8, e9, hL, hown⟩
    simp only at en edf eH e0 e1 e2 e7 e8 e9
    subst edf; replace eH := eH.symm; subst eH
    have hplen := prepR_len ends letters cs (fun c hc => (hown c hc).2)
    have hll := hL.2
    by_cases hr : r = []
    · subst hr
      have hc2 := hL.last
      rw [hc] at hc2
      cases hc2
      clear hc
      have hp2 : prepC ends letters cs0 = (prepR ends letters cs0).2 ++ (if (prepR ends letters cs0).1 && ends then [32] else []) := rfl
      obtain ⟨⟨bt, out⟩, hst⟩ : ∃ st, prepR ends letters cs0 = st := ⟨_, rfl⟩
      rw [hst] at e7 e8 e9 hplen hp2
      simp only at e7 e8 e9 hplen hp2
      have hob : out.length + 1 ≤ 9223372036854775807 := by omega
      cases bt
      · refine W2 ?_
        simp [*]
      · cases ends
        · refine W2 ?_
          simp [*]
        · refine W2 ?_
          simp [*]
    · have hr' : 0 < r.length := List.length_pos_iff.2 hr
      cases hn : nextM r with
      | none =>
        have := hL.none hr hn
        rw [hc] at this; cases this
      | some p =>
        obtain ⟨v, n⟩ := p
        have hs := hL.step hr hn
        have hk := nextM_len hn
        have hoc := nextM_own hn
        have hn1 : (n : Int) ≤ (r.length : Int) := by omega
        have hn2 : n ≤ r.length := by omega
        have hownS : ∀ c ∈ cs ++ [(v, r.take n)], 0 < c.2.length ∧ c.2.length ≤ 4 := by
          intro c hc'
          rcases List.mem_append.1 hc' with h | h
          · exact hown c h
          · simp at h; subst h; simp; omega
        have hpn := prepR_snoc ends letters cs (v, r.take n)
        obtain ⟨⟨bt, out⟩, hst⟩ : ∃ st, prepR ends letters cs = st := ⟨_, rfl⟩
        rw [hst] at e7 e8 e9 hplen hpn
        simp only at e7 e8 e9 hplen
        have hNn : nextD (some (v, n)) = .tup [.val (.int .i32 (v : Nat)), .val (.int .i64 (n : Nat))] := rfl
        have hH := Hold.mk (And.intro hs (And.intro hownS hn))
        have hdl : (r.drop n).length < r.length := by simp; omega
        clear hs hownS hn hst hL hown hc
        have fin : ∀ (bt' : Bool) (out' : By), prepR ends letters (cs ++ [(v, r.take n)]) = (bt', out') → ∀ (E' : Env), E'.n = 59 → E'.get 0 = sD (r.drop n) → E'.get 1 = .val (.bool ends) → E'.get 2 = .val (.bool letters) → E'.get 7 = sD out' → E'.get 8 = .val (.bool bt') → E'.get 9 = .val (.bool out'.isEmpty) →
            ∃ k, k < r.length ∧ ∃ r' cs', k = r'.length ∧ E'.n = 59 ∧ ([] : List (FuncId × List D)) = [] ∧ H = H ∧ E'.get 0 = sD r' ∧ E'.get 1 = .val (.bool ends) ∧ E'.get 2 = .val (.bool letters) ∧ E'.get 7 = sD (prepR ends letters cs').2 ∧ E'.get 8 = .val (.bool (prepR ends letters cs').1) ∧ E'.get 9 = .val (.bool (prepR ends letters cs').2.isEmpty) ∧ Left l cs' r' ∧ ∀ c ∈ cs', 0 < c.2.length ∧ c.2.length ≤ 4 := by
          intro bt' out' hp' E' q1 q2 q3 q4 q5 q6 q7
          refine ⟨_, hdl, r.drop n, cs ++ [(v, r.take n)], rfl, q1, rfl, rfl, q2, q3, q4, ?_, ?_, ?_, hH.out.1, hH.out.2.1⟩
          · rw [hp']; exact q5
          · rw [hp']; exact q6
          · rw [hp']; exact q7
        refine W2 ?_
        refine PCalls.mono (rNext_spec r (by omega) _) ?_
        intro d3 H3 hd3
        rw [hd3.1, hd3.2]
        clear hd3
        try simp [*]
        rw [hH.out.2.2, hNn]
        try simp [*]
        refine W2 ?_
        refine PCalls.mono (rnothing_spec v _) ?_
        intro d3 H3 hd3
        rw [hd3.1, hd3.2]
        clear hd3
        try simp [*]
        cases hno : nothC v with
        | true =>
          have hb : blankC v = false := by
            cases hq : blankC v with
            | false => rfl
            | true => have := blank_noth v hq; rw [hno] at this; cases this
          have k1 : kindN v = 1 := by simp [kindN, hb, hno]
          have hpp : prepStep ends letters (bt, out) (v, r.take n) = (bt, out) := by simp [prepStep, k1]
          rw [hpp] at hpn
          try simp [*]
          refine W2 ?_
          refine fin _ _ hpn _ ?_ ?_ ?_ ?_ ?_ ?_ ?_ <;> simp [*]
        | false =>
          try simp [*]
          refine W2 ?_
          refine PCalls.mono (rblank_spec v _) ?_
          intro d3 H3 hd3
          rw [hd3.1, hd3.2]
          clear hd3
          try simp [*]
          cases hb : blankC v with
          | true =>
            have k0 : kindN v = 0 := by simp [kindN, hb]
            have hpp : prepStep ends letters (bt, out) (v, r.take n) = (true, out) := by simp [prepStep, k0]
            rw [hpp] at hpn
            try simp [*]
            refine W2 ?_
            refine fin _ _ hpn _ ?_ ?_ ?_ ?_ ?_ ?_ ?_ <;> simp [*]
          | false =>
            have k2 : kindN v = 2 := by simp [kindN, hb, hno]
            have hpp : prepStep ends letters (bt, out) (v, r.take n) = (false, out ++ (if bt && (ends || !out.isEmpty) then [32] else []) ++ (if letters then smallM v (r.take n) else r.take n)) := by simp [prepStep, k2]
            rw [hpp] at hpn
            have hve : v < 1114112 := by omega
            have hsl : (smallM v (r.take n)).length ≤ 4 := by
              by_cases q : capC v = true
              · exact smallM_len _ _ q
              · rw [smallM, if_neg q]; simp; omega
            have hne : r.take n ≠ [] := by
              intro q
              rcases List.take_eq_nil_iff.1 q with h | h
              · omega
              · exact hr h
            have hse := smallM_pos v _ hne
            have hne' : (r.take n).isEmpty = false := by simpa using hne
            have hse' : (smallM v (r.take n)).isEmpty = false := by simpa using hse
            have hol : out.length ≤ 500000 := by omega
            have b0 : out.length + 1 ≤ 9223372036854775807 := by omega
            have b1 : out.length + n ≤ 9223372036854775807 := by omega
            have b2 : out.length + 1 + n ≤ 9223372036854775807 := by omega
            have b3 : out.length + (smallM v (r.take n)).length ≤ 9223372036854775807 := by omega
            have b4 : out.length + 1 + (smallM v (r.take n)).length ≤ 9223372036854775807 := by omega
            have hcase : bt = false ∨ (bt = true ∧ ends = true ∧ out.isEmpty = true) ∨ (bt = true ∧ ends = true ∧ out.isEmpty = false) ∨ (bt = true ∧ ends = false ∧ out.isEmpty = true) ∨ (bt = true ∧ ends = false ∧ out.isEmpty = false) := by
              cases bt <;> cases ends <;> cases out.isEmpty <;> simp
            rcases hcase with rfl | ⟨rfl, rfl, hz⟩ | ⟨rfl, rfl, hz⟩ | ⟨rfl, rfl, hz⟩ | ⟨rfl, rfl, hz⟩
            case' inl =>
              have hpn1 : prepR ends letters (cs ++ [(v, r.take n)]) = (false, out ++ (if letters then smallM v (r.take n) else r.take n)) := by rw [hpn]; simp
            case' inr.inl =>
              have hpn1 : prepR true letters (cs ++ [(v, r.take n)]) = (false, (out ++ [32]) ++ (if letters then smallM v (r.take n) else r.take n)) := by rw [hpn]; simp
              rw [hz] at e9
            case' inr.inr.inl =>
              have hpn1 : prepR true letters (cs ++ [(v, r.take n)]) = (false, (out ++ [32]) ++ (if letters then smallM v (r.take n) else r.take n)) := by rw [hpn]; simp
              rw [hz] at e9
            case' inr.inr.inr.inl =>
              have hpn1 : prepR false letters (cs ++ [(v, r.take n)]) = (false, out ++ (if letters then smallM v (r.take n) else r.take n)) := by rw [hpn, hz]; simp
              rw [hz] at e9
            case' inr.inr.inr.inr =>
              have hpn1 : prepR false letters (cs ++ [(v, r.take n)]) = (false, (out ++ [32]) ++ (if letters then smallM v (r.take n) else r.take n)) := by rw [hpn, hz]; simp
              rw [hz] at e9
            all_goals
              clear hpn hpp
              try clear hz
              try simp [*]
              refine W2 ?_
            all_goals
              cases letters
              · simp only [Bool.false_eq_true, if_false] at hpn1
                try simp [*]
                refine W2 ?_
                refine fin _ _ hpn1 _ ?_ ?_ ?_ ?_ ?_ ?_ ?_ <;> simp [*]
              · simp only [if_true] at hpn1
                try simp [*]
                refine W2 ?_
                refine PCalls.mono (rsmall_spec v (r.take n) hoc hve _) ?_
                intro d3 H3 hd3
                rw [hd3.1, hd3.2]
                clear hd3
                try simp [*]
                try simp [*]
                refine W2 ?_
                refine fin _ _ hpn1 _ ?_ ?_ ?_ ?_ ?_ ?_ ?_ <;> simp [*]
end Go.Pv
-- ZpvTameA ZpvDrawT
namespace Go.Pv
open Go.Proofs
attribute [-simp] eLen UInt8.ofNat_add

theorem hexT_at : ∀ i : Nat, i < 22 → hexM (hexT.getD i 0) = some (if 15 < i then i - 6 else i) := by decide +kernel
theorem hexT_not (c : UInt8) (h : hexT.contains c = false) : hexM c = none := by
  have key : ((List.range 256).all fun n => hexT.contains (UInt8.ofNat n) || (hexM (UInt8.ofNat n)).isNone) = true := by decide +kernel
  have hc := List.all_eq_true.1 key c.toNat (List.mem_range.2 c.toNat_lt)
  have hg : UInt8.ofNat c.toNat = c := by simp
  rw [hg, h, Bool.false_or] at hc
  exact Option.isNone_iff_eq_none.1 hc
set_option maxHeartbeats 4000000 in
set_option maxRecDepth 100000 in
theorem rfdigit_spec (c : UInt8) (H : Heap) : PCalls Tryz.prog 59 [.val (.int .u8 (c.toNat : Nat))] H fun d H' => d = .val (.int .i64 (match hexM c with | some n => (n : Int) | none => -1)) ∧ H' = H := by
  refine PCalls.of_pwp Tryz.call59 Tryz.func59 rfl (by simp [Tryz.ntmps59]) ?_
  rw [Tryz.ntmps59]
  obtain ⟨ans, hans⟩ : ∃ a : Int, (match hexM c with | some n => (n : Int) | none => -1) = a := ⟨_, rfl⟩
  rw [hans]
  obtain ⟨T, hT⟩ : ∃ T, hexT = T := ⟨_, rfl⟩
  have hTl : T.length = 22 := by rw [← hT]; rfl
  have hTD : D.val (.string ⟨#[48, 49, 50, 51, 52, 53, 54, 55, 56, 57, 97, 98, 99, 100, 101, 102, 65, 66, 67, 68, 69, 70]⟩) = sD T := by rw [← hT]; rfl
  refine W2 ?_
  clear hTD
  refine pwp_for (22) (fun k st => st.env.n = 19 ∧ st.df = [] ∧ st.H = H ∧ st.env.get 0 = .val (.int .u8 (c.toNat : Nat)) ∧ st.env.get 3 = sD T ∧ st.env.get 4 = .val (.int .i64 k) ∧ (Hold ((T.take k).contains c = false))) ⟨by first | (simp; done) | (simp [*]; done), rfl, by first | rfl | simp, by first | (simp; done) | (simp [*]; done), by first | (simp; done) | (simp [*]; done), by first | (simp; done) | (simp [*]; done), by first | done | exact ⟨by simp⟩ | simp⟩ ?_ ?_
  · rintro k ⟨E, Hx, df⟩ hk ⟨en, edf, eH, e0, e3, e4, eP⟩
    simp only at en edf eH e0 e3 e4
    subst edf; replace eH := eH.symm; subst eH
    have hki : (k : Int) < ((22 : Nat) : Int) := by omega
    have hkw := wrapSucc k (by omega)
    obtain ⟨x, hx⟩ : ∃ x, T[k]? = some x := ⟨_, List.getElem?_eq_getElem (by omega)⟩
    have bx : byteAt T k = (x.toNat : Int) := byteAt_of hx
    have lx := toNat_lt x
    have k1 : (k : Int) < 22 := by omega
    have k2 : (k : Int) < (T.length : Int) := by omega
    have hkl : k < T.length := by omega
    by_cases hx : (x.toNat : Int) = (c.toNat : Int)
    · have hxc : x = c := UInt8.toNat_inj.1 (by omega)
      have hM : hexM c = some (if 15 < k then k - 6 else k) := by
        rw [← hxc, ← hexT_at k hk, hT, List.getD_eq_getElem?_getD]
        rw [‹T[k]? = some x›]; rfl
      rw [hM] at hans
      simp only at hans
      by_cases h15 : 15 < k
      · rw [if_pos h15] at hans
        have h15i : (15 : Int) < (k : Int) := by omega
        have w := wrapI ((k : Int) - 6) (by omega) (by omega)
        have hA : ans = (k : Int) - 6 := by omega
        clear hans hM hxc
        refine W2 ?_
        simp [*]
      · rw [if_neg h15] at hans
        have h15i : ¬ (15 : Int) < (k : Int) := by omega
        have hA : ans = (k : Int) := by omega
        clear hans hM hxc
        refine W2 ?_
        simp [*]
    · have hxc : ¬ c = x := fun q => hx (by rw [q])
      have hs : Hold ((T.take (k + 1)).contains c = false) := by
        refine ⟨?_⟩
        have h0 := eP.out
        rw [List.take_add_one, ‹T[k]? = some x›]
        simp only [List.contains_eq_mem, List.mem_append, decide_eq_false_iff_not, not_or] at h0 ⊢
        exact ⟨h0, by simp [hxc]⟩
      have hx2 : ¬ x.toNat = c.toNat := by omega
      clear hans
      refine W2 ?_
      simp [*]
      first
      | done
      | simpa using hs
  · rintro ⟨E, Hx, df⟩ ⟨en, edf, eH, e0, e3, e4, eP⟩
    simp only at en edf eH e0 e3 e4
    subst edf; replace eH := eH.symm; subst eH
    have h5 := eP.out
    rw [List.take_of_length_le (by omega), ← hT] at h5
    rw [hexT_not c h5] at hans
    have hA : ans = -1 := hans.symm
    clear hans h5 eP
    refine W2 ?_
    simp [*]
set_option maxHeartbeats 4000000 in
set_option maxRecDepth 100000 in
theorem rfParse_spec (l : By) (H : Heap) : PCalls Tryz.prog 37 [sD l] H fun d H' => d = fltD (parseM l) ∧ H' = H := by
  refine PCalls.of_pwp Tryz.call37 Tryz.func37 rfl (by simp [Tryz.ntmps37]) ?_
  rw [Tryz.ntmps37]
  by_cases h16 : l.length = 16
  · have h16i : (l.length : Int) = 16 := by omega
    refine W2 ?_
    refine pwp_for (16) (fun k st => st.env.n = 27 ∧ st.df = [] ∧ st.H = H ∧ st.env.get 0 = sD l ∧ st.env.get 4 = .val (.int .u64 ((hexV (l.take k) : Nat) : Int)) ∧ st.env.get 5 = .val (.int .i64 k) ∧ (Hold (hexAll (l.take k) = true))) ⟨by first | (simp; done) | (simp [*]; done), rfl, by first | rfl | simp, by first | (simp; done) | (simp [*]; done), by first | (simp; done) | (simp [*]; done), by first | (simp; done) | (simp [*]; done), by first | done | exact ⟨by simp⟩ | simp⟩ ?_ ?_
    · rintro k ⟨E, Hx, df⟩ hk ⟨en, edf, eH, e0, e4, e5, eP⟩
      simp only at en edf eH e0 e4 e5
      subst edf; replace eH := eH.symm; subst eH
      have hki : (k : Int) < ((16 : Nat) : Int) := by omega
      have hkw := wrapSucc k (by omega)
      obtain ⟨c, hc⟩ : ∃ c, l[k]? = some c := ⟨_, List.getElem?_eq_getElem (by omega)⟩
      have bc : byteAt l k = (c.toNat : Int) := byteAt_of hc
      have lc := toNat_lt c
      have hs := hexAll_succ l k c hc
      rw [eP.out, Bool.true_and] at hs
      have hv := hexV_take l k c hc
      have hlt := hexV_lt (l.take k)
      have hl15 : (l.take k).length ≤ 15 := by simp; omega
      have hlt2 : hexV (l.take k) < 16 ^ 15 := Nat.lt_of_lt_of_le hlt (Nat.pow_le_pow_right (by decide) hl15)
      obtain ⟨v, hve⟩ : ∃ v, hexV (l.take k) = v := ⟨_, rfl⟩
      rw [hve] at hv hlt2 e4
      have k1 : (k : Int) < 16 := by omega
      have k2 : (k : Int) < (l.length : Int) := by omega
      have hkl : k < l.length := by omega
      have hds := rfdigit_spec c
      cases hd : hexM c with
      | none =>
        have hp : parseM l = none := by rw [parseM, if_neg]; rw [hexAll_not l k c hc hd]; simp
        rw [hd] at hds
        simp only at hds
        clear hs hve hd
        refine W2 ?_
        refine PCalls.mono (hds _) ?_
        intro d3 H3 hd3
        rw [hd3.1, hd3.2]
        clear hd3
        try simp [*]
        try simp [*]
        refine W2 ?_
        simp [*, fltD]
      | some n =>
        have hn := hexM_lt hd
        rw [hd] at hs hv hds
        simp only [Option.getD_some, Option.isSome_some] at hs hv hds
        have n0 : ¬ (n : Int) < 0 := by omega
        have u1 := wrapU ((v : Int) * 16) (by omega) (by omega)
        have u2 := wrapU (n : Int) (by omega) (by omega)
        have u3 : IntKind.u64.wrap ((v : Int) * 16 + (n : Int)) = ((v * 16 + n : Nat) : Int) := by rw [wrapU _ (by omega) (by omega)]; omega
        have hs' := Hold.mk hs
        clear hs hve hd
        refine W2 ?_
        refine PCalls.mono (hds _) ?_
        intro d3 H3 hd3
        rw [hd3.1, hd3.2]
        clear hd3
        try simp [*]
        try simp [*]
        refine W2 ?_
        simp [*]
        first
        | done
        | exact ⟨by simpa using hs'.out⟩
    · rintro ⟨E, Hx, df⟩ ⟨en, edf, eH, e0, e4, e5, eP⟩
      simp only at en edf eH e0 e4 e5
      subst edf; replace eH := eH.symm; subst eH
      have h5 := eP.out
      have ht : l.take 16 = l := List.take_of_length_le (by omega)
      rw [ht] at h5 e4
      have hp : parseM l = some (hexV l) := by rw [parseM, if_pos ⟨h16, h5⟩]
      clear h5 ht eP
      refine W2 ?_
      refine PCalls.mono (frombits_spec (hexV l) _) ?_
      intro d3 H3 hd3
      rw [hd3.1, hd3.2]
      clear hd3
      try simp [*]
      refine W2 ?_
      simp [*, fltD]
  · have h16i : ¬ (l.length : Int) = 16 := by omega
    have hp : parseM l = none := by rw [parseM, if_neg]; simp [h16]
    refine W2 ?_
    simp [*, fltD]
end Go.Pv
-- ZpvTameA ZpvDrawT
namespace Go.Pv
open Go.Proofs
attribute [-simp] eLen UInt8.ofNat_add

set_option maxRecDepth 100000 in
theorem rfBits_spec (x : Nat) (H : Heap) : PCalls Tryz.prog 61 [.val (.float .f64 x)] H fun d H' => d = .val (.int .u64 (plainF x : Nat)) ∧ H' = H := by
  refine PCalls.of_pwp Tryz.call61 Tryz.func61 rfl (by simp [Tryz.ntmps61]) ?_
  rw [Tryz.ntmps61]
  cases hn : Op.floatEq .f64 x x with
  | false =>
    have hp : plainF x = 9221120237041090560 := by rw [plainF, nanB, hn]; rfl
    refine W2 ?_
    simp [*]
  | true =>
    cases hz : Op.floatEq .f64 x 0 with
    | true =>
      have hp : plainF x = 0 := by rw [plainF, nanB, hn, hz]; rfl
      refine W2 ?_
      simp [*]
    | false =>
      have hp : plainF x = x := by rw [plainF, nanB, hn, hz]; rfl
      refine W2 ?_
      refine PCalls.mono (fbits_spec x _) ?_
      intro d3 H3 hd3
      rw [hd3.1, hd3.2]
      clear hd3
      try simp [*]
      refine W2 ?_
      simp [*]
end Go.Pv
-- ZpvTameA ZpvDrawT
namespace Go.Pv
open Go.Proofs
attribute [-simp] eLen UInt8.ofNat_add

/-! ### The digits of a number's bits -/
set_option maxHeartbeats 4000000 in
set_option maxRecDepth 100000 in
theorem rfText_spec (x : Nat) (H : Heap) : PCalls Tryz.prog 38 [.val (.float .f64 x)] H fun d H' => d = sD (textF (plainF x)) ∧ H' = H := by
  refine PCalls.of_pwp Tryz.call38 Tryz.func38 rfl (by simp [Tryz.ntmps38]) ?_
  rw [Tryz.ntmps38]
  refine W2 ?_
  refine PCalls.mono (rfBits_spec x _) ?_
  intro d3 H3 hd3
  rw [hd3.1, hd3.2]
  clear hd3
  try simp [*]
  obtain ⟨n, hn⟩ : ∃ n, plainF x = n := ⟨_, rfl⟩
  rw [hn]
  try simp [*]
  refine W2 ?_
  refine pwp_for (16) (fun k st => st.env.n = 27 ∧ st.df = [] ∧ st.H = H ∧ st.env.get 3 = .val (.int .u64 (n : Nat)) ∧ st.env.get 4 = sD ((List.range k).map (nibF n)) ∧ st.env.get 5 = .val (.int .i64 k)) ⟨by first | (simp; done) | (simp [*]; done), rfl, by first | rfl | simp, by first | (simp; done) | (simp [*]; done), by first | (simp; done) | (simp [*]; done), by first | (simp; done) | (simp [*]; done)⟩ ?_ ?_
  · rintro k ⟨E, Hx, df⟩ hk ⟨en, edf, eH, e3, e4, e5⟩
    simp only at en edf eH e3 e4 e5
    subst edf; replace eH := eH.symm; subst eH
    have hki : (k : Int) < ((16 : Nat) : Int) := by omega
    have hkw := wrapSucc k (by omega)
    have k1 : (k : Int) < 16 := by omega
    have w1 := wrapI (4 * (k : Int)) (by omega) (by omega)
    have w2 := wrapI (60 - 4 * (k : Int)) (by omega) (by omega)
    have w3 := wrapU (60 - 4 * (k : Int)) (by omega) (by omega)
    have hs := shr_nib n k hk
    have ha := and15 (n / 16 ^ (15 - k))
    have k60 : 4 * (k : Int) ≤ 60 := by omega
    have hsl := nib_sl n k
    have hkb : k + 1 ≤ 9223372036854775807 := by omega
    have hrs : (List.range (k + 1)).map (nibF n) = (List.range k).map (nibF n) ++ [nibF n k] := by rw [List.range_succ, List.map_append]; rfl
    obtain ⟨q, hq⟩ : ∃ q, n / 16 ^ (15 - k) = q := ⟨_, rfl⟩
    rw [hq] at hs ha
    simp only [hq] at hsl
    clear hq
    obtain ⟨m, hm⟩ : ∃ m, q % 16 = m := ⟨_, rfl⟩
    have hm16 : m < 16 := by omega
    rw [hm] at ha
    have hsl2 : List.drop m (48 :: List.take m [49, 50, 51, 52, 53, 54, 55, 56, 57, 97, 98, 99, 100, 101, 102]) = [nibF n k] := hsl m hm
    clear hsl
    have hkb2 : k + (min m 15 + 1 - m) ≤ 9223372036854775807 := by omega
    have m3 : (m : Int) ≤ (m : Int) + 1 := by omega
    have w4 := wrapU ((m : Int) + 1) (by omega) (by omega)
    have m1 : (m : Int) ≤ 15 := by omega
    have m2 : (m : Int) + 1 ≤ 16 := by omega
    clear hm
    refine W2 ?_
    simp [*]
  · rintro ⟨E, Hx, df⟩ ⟨en, edf, eH, e3, e4, e5⟩
    simp only at en edf eH e3 e4 e5
    subst edf; replace eH := eH.symm; subst eH
    refine W2 ?_
    simp [*, textF]
end Go.Pv
-- ZpvTameA ZpvDrawT
namespace Go.Pv
open Go.Proofs
attribute [-simp] eLen UInt8.ofNat_add



/-! ### The document's digits with blanks -/
@[simp] theorem delB_nil (c : UInt8) : delB c [] = [] := rfl
theorem delB_snoc (l : By) (k : Nat) (c : UInt8) (h : l[k]? = some c) : delB 32 (l.take (k + 1)) = delB 32 (l.take k) ++ (if c = 32 then [] else [c]) := by
  rw [List.take_add_one, h]
  unfold delB
  rw [List.filter_append]
  by_cases hc : c = 32
  · simp [hc]
  · simp [hc]
theorem delB_mem {l : By} {k : Nat} {c : UInt8} (h : l[k]? = some c) (hc : c ≠ 32) : c ∈ delB 32 l := List.mem_filter.2 ⟨List.mem_of_getElem? h, by simpa using hc⟩
set_option maxHeartbeats 4000000 in
set_option maxRecDepth 100000 in
theorem rNumeric_spec (l : By) (hl : l.length ≤ 100000) (H : Heap) : PCalls Tryz.prog 36 [sD l] H fun d H' => d = optD (numericM l) ∧ H' = H := by
  refine PCalls.of_pwp Tryz.call36 Tryz.func36 rfl (by simp [Tryz.ntmps36]) ?_
  rw [Tryz.ntmps36]
  have hnm : numericM l = if digsB (delB 32 l) = true then some (delB 32 l) else none := rfl
  obtain ⟨ans, hans⟩ : ∃ r, numericM l = r := ⟨_, rfl⟩
  rw [hans] at hnm ⊢
  clear hans
  refine W2 ?_
  refine pwp_for (l.length) (fun k st => st.env.n = 36 ∧ st.df = [] ∧ st.H = H ∧ st.env.get 0 = sD l ∧ st.env.get 4 = sD (delB 32 (l.take k)) ∧ st.env.get 5 = .val (.int .i64 k) ∧ ((delB 32 (l.take k)).all isDig = true)) ⟨by first | (simp; done) | (simp [*]; done), rfl, by first | rfl | simp, by first | (simp; done) | (simp [*]; done), by first | (simp; done) | (simp [*]; done), by first | (simp; done) | (simp [*]; done), by first | (simp; done) | (simp [*]; done)⟩ ?_ ?_
  · rintro k ⟨E, Hx, df⟩ hk ⟨en, edf, eH, e0, e4, e5, eP⟩
    simp only at en edf eH e0 e4 e5
    subst edf; replace eH := eH.symm; subst eH
    have hki : (k : Int) < ((l.length : Nat) : Int) := by omega
    have hkw := wrapSucc k (by omega)
    obtain ⟨c, hc⟩ : ∃ c, l[k]? = some c := ⟨_, List.getElem?_eq_getElem (by omega)⟩
    have bc : byteAt l k = (c.toNat : Int) := byteAt_of hc
    have lc := toNat_lt c
    have hs := delB_snoc l k c hc
    have hm := @delB_mem l k c hc
    have hdl := delB_len 32 (l.take k)
    rw [List.length_take] at hdl
    obtain ⟨X, hX⟩ : ∃ X, delB 32 (l.take k) = X := ⟨_, rfl⟩
    rw [hX] at hs hdl e4 eP
    have hkb : X.length + 1 ≤ 9223372036854775807 := by omega
    have hkc : (k : Int) ≤ (k : Int) + 1 := by omega
    have hk2 : (k : Int) + 1 ≤ (l.length : Int) := by omega
    have hsl : (l.take (k + 1)).drop k = [c] := by rw [List.take_add_one, hc, List.drop_append, List.drop_of_length_le (by rw [List.length_take]; omega), List.length_take, show k - min k l.length = 0 by omega]; rfl
    have hmin : min (k + 1) l.length - k = 1 := by omega
    by_cases h1 : 48 ≤ (c.toNat : Int)
    · by_cases h2 : (c.toNat : Int) ≤ 57
      · have hc32 : ¬ c = 32 := by intro e; subst e; simp at h1
        have hd : isDig c = true := by simp [isDig]; omega
        rw [if_neg hc32] at hs
        clear hm hnm hc32
        refine W2 ?_
        simp [*]
      · have hc32 : c ≠ 32 := by intro e; subst e; simp at h1
        have hi : ¬ (c.toNat : Int) = 32 := by omega
        have hd : isDig c = false := by simp [isDig]; omega
        have hn : ans = none := by
          rw [hnm, if_neg]
          intro q
          simp only [digsB, Bool.and_eq_true] at q
          have := List.all_eq_true.1 q.2 c (hm hc32)
          rw [hd] at this; cases this
        clear hm hnm hc32
        refine W2 ?_
        simp [*, optD]
    · by_cases h3 : (c.toNat : Int) = 32
      · have hc32 : c = 32 := UInt8.toNat_inj.1 (by simpa using (by omega : c.toNat = 32))
        rw [if_pos hc32, List.append_nil] at hs
        clear hm hnm hc32
        refine W2 ?_
        simp [*]
      · have hc32 : c ≠ 32 := by intro e; subst e; simp at h3
        have hd : isDig c = false := by simp [isDig]; omega
        have hn : ans = none := by
          rw [hnm, if_neg]
          intro q
          simp only [digsB, Bool.and_eq_true] at q
          have := List.all_eq_true.1 q.2 c (hm hc32)
          rw [hd] at this; cases this
        clear hm hnm hc32
        refine W2 ?_
        simp [*, optD]
  · rintro ⟨E, Hx, df⟩ ⟨en, edf, eH, e0, e4, e5, eP⟩
    simp only at en edf eH e0 e4 e5
    subst edf; replace eH := eH.symm; subst eH
    rw [List.take_length] at eP e4
    rw [digsB, eP, Bool.and_true] at hnm
    obtain ⟨r, hr⟩ : ∃ r, delB 32 l = r := ⟨_, rfl⟩
    rw [hr] at hnm e4
    clear eP hr
    rcases r with _ | ⟨a, r⟩
    · have hnm2 : ans = none := hnm
      clear hnm
      refine W2 ?_
      simp [*, optD]
    · have hnm2 : ans = some (a :: r) := hnm
      clear hnm
      refine W2 ?_
      simp [*, optD]
end Go.Pv
-- ZpvTameA ZpvDrawT
namespace Go.Pv
open Go.Proofs
attribute [-simp] eLen UInt8.ofNat_add



/-! ### A class's name is a word, its identifier a number -/
theorem byte_all (p : UInt8 → Bool) (h : ((List.range 256).all fun n => p (UInt8.ofNat n)) = true) (c : UInt8) : p c = true := by
  have := List.all_eq_true.1 h c.toNat (List.mem_range.2 c.toNat_lt)
  simpa using this
theorem low_let (c : UInt8) : isLet (lowB c) = isLet c := by
  have := byte_all (fun c => isLet (lowB c) == isLet c) (by decide +kernel) c
  simpa using this
theorem low_sign (c : UInt8) : isSign (lowB c) = isSign c := by
  have := byte_all (fun c => isSign (lowB c) == isSign c) (by decide +kernel) c
  simpa using this
theorem word_low (l : By) : wordB (lowL l) = wordB l := by
  unfold wordB signsB lowL
  rw [List.all_map, List.length_map]
  have h1 : (l.all (isSign ∘ lowB)) = l.all isSign := by
    congr 1; funext c; exact low_sign c
  rw [h1]
  cases l with
  | nil => rfl
  | cons c l => simp [hd0, low_let]
theorem cls_ok {l : By} (h : fcls l < 10) : ((arcsM l).isSome || wordB l) = true := by
  have hw : ∀ k : Nat, k < 10 → wordB (lowL (nm k)) = true := by decide +kernel
  have ho : ∀ k : Nat, k < 10 → (arcsM (od k)).isSome = true := by decide +kernel
  unfold fcls at h
  cases hf : (List.range 10).find? (hit l) with
  | none => rw [hf] at h; simp at h
  | some k =>
    have h1 := List.find?_some hf
    have h2 := List.mem_range.1 (List.mem_of_find?_eq_some hf)
    unfold hit at h1
    rw [Bool.or_eq_true] at h1 ⊢
    rcases h1 with h1 | h1
    · right
      rw [← word_low, of_decide_eq_true h1]
      exact hw k h2
    · left
      rw [of_decide_eq_true h1]
      exact ho k h2
theorem object_ok (l : By) : objectOk l = ((arcsM l).isSome || wordB l) := by
  unfold objectOk
  by_cases h : fcls l < 10
  · rw [cls_ok h]; simp
  · rw [decide_eq_false h]; rfl
theorem hold_none {s : Int} {l : By} (h : (keyM s l).2 = false ∨ isRule s = false ∨ 512 < l.length) : holdM s l = none := by
  unfold holdM
  rw [if_neg]
  rintro ⟨a, b, c⟩
  rcases h with h | h | h
  · rw [h] at c; cases c
  · rw [h] at a; cases a
  · omega
theorem hold_some {s : Int} {l : By} (h1 : isRule s = true) (h2 : l.length ≤ 512) (h3 : (keyM s l).2 = true) : holdM s l = some (keyM s l).1 := by
  unfold holdM
  rw [if_pos ⟨h1, h2, h3⟩]
attribute [local simp] optK
/-! ### The document's key -/
set_option maxHeartbeats 4000000 in
set_option maxRecDepth 100000 in
theorem rFold_spec (l : By) (hl : l.length ≤ 100000) (H : Heap) : PCalls Tryz.prog 31 [sD l] H fun d H' => d = sD (prepM false true l) ∧ H' = H := by
  refine PCalls.of_pwp Tryz.call31 Tryz.func31 rfl (by simp [Tryz.ntmps31]) ?_
  rw [Tryz.ntmps31]
  refine W2 ?_
  refine PCalls.mono (rprepared_spec l false true hl _) ?_
  intro d3 H3 hd3
  rw [hd3.1, hd3.2]
  clear hd3
  try simp [*]
  refine W2 ?_
  simp [*]
set_option maxHeartbeats 4000000 in
set_option maxRecDepth 100000 in
theorem rExact_spec (l : By) (hl : l.length ≤ 100000) (H : Heap) : PCalls Tryz.prog 32 [sD l] H fun d H' => d = sD (prepM false false l) ∧ H' = H := by
  refine PCalls.of_pwp Tryz.call32 Tryz.func32 rfl (by simp [Tryz.ntmps32]) ?_
  rw [Tryz.ntmps32]
  refine W2 ?_
  refine PCalls.mono (rprepared_spec l false false hl _) ?_
  intro d3 H3 hd3
  rw [hd3.1, hd3.2]
  clear hd3
  try simp [*]
  refine W2 ?_
  simp [*]
def rkD (o : Option By) : D := optK (o.getD []) o.isSome
set_option maxHeartbeats 8000000 in
set_option maxRecDepth 100000 in
theorem rKey_local (s : Int) (l : By) (hl : l.length ≤ 100000) : PCalls Tryz.prog 14 [.val (.int .i64 s), sD l] (noHeap noG) fun d _ => d = rkD (holdM s l) := by
  refine PCalls.of_pwp Tryz.call14 Tryz.func14 rfl (by simp [Tryz.ntmps14]) ?_
  rw [Tryz.ntmps14]
  by_cases h5 : 512 < (l.length : Int)
  · have hh : holdM s l = none := hold_none (.inr (.inr (by omega)))
    rw [hh]
    refine W2 ?_
    simp [*, rkD]
  have hl5 : l.length ≤ 512 := by omega
  by_cases h1 : s = 1
  · subst h1
    have hk : keyM 1 l = (prepM false true l, (chars l).isSome && !(prepM false true l).isEmpty) := rfl
    obtain ⟨ans, hans⟩ : ∃ r, holdM 1 l = r := ⟨_, rfl⟩
    have hA : ans = if (chars l).isSome && !(prepM false true l).isEmpty then some (prepM false true l) else none := by
      rw [← hans]
      cases q : (chars l).isSome && !(prepM false true l).isEmpty with
      | true => rw [hold_some (by decide) hl5 (by rw [hk]; exact q), hk]; rfl
      | false => rw [hold_none (.inl (by rw [hk]; exact q))]; rfl
    rw [hans]
    clear hans hk
    have hc := countM_lt l
    refine W2 ?_
    refine PCalls.mono (rFold_spec l hl _) ?_
    intro d3 H3 hd3
    rw [hd3.1, hd3.2]
    clear hd3
    try simp [*]
    obtain ⟨r, hr⟩ : ∃ r, prepM false true l = r := ⟨_, rfl⟩
    rw [hr] at hA
    rw [hr]
    clear hr
    try simp [*]
    refine W2 ?_
    refine PCalls.mono (rCount_spec l hl _) ?_
    intro d3 H3 hd3
    rw [hd3.1, hd3.2]
    clear hd3
    try simp [*]
    cases hch : chars l with
    | none =>
      have hc2 : countM l < 0 := hc.2 hch
      rw [hch] at hA
      have hA2 : ans = none := hA
      clear hA
      try simp [*]
      refine W2 ?_
      simp [*, rkD]
    | some cs =>
      have hc2 : ¬ countM l < 0 := fun q => by have := hc.1 q; rw [hch] at this; cases this
      rw [hch] at hA
      rcases r with _ | ⟨a, r⟩
      · have hA2 : ans = none := hA
        clear hA
        try simp [*]
        refine W2 ?_
        simp [*, rkD]
      · have hA2 : ans = some (a :: r) := hA
        clear hA
        try simp [*]
        refine W2 ?_
        simp [*, rkD]
  by_cases h2 : s = 2
  · subst h2
    have hk : keyM 2 l = (prepM false false l, (chars l).isSome && !(prepM false false l).isEmpty) := rfl
    obtain ⟨ans, hans⟩ : ∃ r, holdM 2 l = r := ⟨_, rfl⟩
    have hA : ans = if (chars l).isSome && !(prepM false false l).isEmpty then some (prepM false false l) else none := by
      rw [← hans]
      cases q : (chars l).isSome && !(prepM false false l).isEmpty with
      | true => rw [hold_some (by decide) hl5 (by rw [hk]; exact q), hk]; rfl
      | false => rw [hold_none (.inl (by rw [hk]; exact q))]; rfl
    rw [hans]
    clear hans hk
    have hc := countM_lt l
    refine W2 ?_
    refine PCalls.mono (rFold_spec l hl _) ?_
    intro d3 H3 hd3
    rw [hd3.1, hd3.2]
    clear hd3
    try simp [*]
    obtain ⟨r0, hr0⟩ : ∃ r, prepM false true l = r := ⟨_, rfl⟩
    rw [hr0]
    clear hr0
    try simp [*]
    refine W2 ?_
    refine PCalls.mono (rExact_spec l hl _) ?_
    intro d3 H3 hd3
    rw [hd3.1, hd3.2]
    clear hd3
    try simp [*]
    obtain ⟨r, hr⟩ : ∃ r, prepM false false l = r := ⟨_, rfl⟩
    rw [hr] at hA
    rw [hr]
    clear hr
    try simp [*]
    refine W2 ?_
    refine PCalls.mono (rCount_spec l hl _) ?_
    intro d3 H3 hd3
    rw [hd3.1, hd3.2]
    clear hd3
    try simp [*]
    cases hch : chars l with
    | none =>
      have hc2 : countM l < 0 := hc.2 hch
      rw [hch] at hA
      have hA2 : ans = none := hA
      clear hA
      try simp [*]
      refine W2 ?_
      simp [*, rkD]
    | some cs =>
      have hc2 : ¬ countM l < 0 := fun q => by have := hc.1 q; rw [hch] at this; cases this
      rw [hch] at hA
      rcases r with _ | ⟨a, r⟩
      · have hA2 : ans = none := hA
        clear hA
        try simp [*]
        refine W2 ?_
        simp [*, rkD]
      · have hA2 : ans = some (a :: r) := hA
        clear hA
        try simp [*]
        refine W2 ?_
        simp [*, rkD]
  by_cases h3 : s = 3
  · subst h3
    have hA : holdM 3 l = if (sizedM l).isSome then some (plainM l) else none := by
      cases q : (sizedM l).isSome with
      | true => rw [hold_some (s := 3) (by decide) hl5 (show (keyM 3 l).2 = true from q)]; rfl
      | false => rw [hold_none (s := 3) (.inl (show (keyM 3 l).2 = false from q))]; rfl
    have hp : (sizedM l).isSome = false → plainM l = [] := fun q => by
      unfold plainM
      cases hs : sizedM l with
      | none => rfl
      | some x => rw [hs] at q; cases q
    refine W2 ?_
    refine PCalls.mono (rPlain_spec l hl _) ?_
    intro d3 H3 hd3
    rw [hd3.1, hd3.2]
    clear hd3
    try simp [*]
    try simp [*]
    refine W2 ?_
    refine PCalls.mono (rValid_spec l hl _) ?_
    intro d3 H3 hd3
    rw [hd3.1, hd3.2]
    clear hd3
    try simp [*]
    try simp [*]
    refine W2 ?_
    cases q : (sizedM l).isSome with
    | true => rw [q] at hA; simp [*, rkD]
    | false => rw [q] at hA; simp [*, rkD]
  by_cases h4 : s = 4
  · subst h4
    have hA : holdM 4 l = if decide (l = yesB) || decide (l = noB) then some l else none := by
      cases q : decide (l = yesB) || decide (l = noB) with
      | true => rw [hold_some (s := 4) (by decide) hl5 (show (keyM 4 l).2 = true from q)]; rfl
      | false => rw [hold_none (s := 4) (.inl (show (keyM 4 l).2 = false from q))]; rfl
    by_cases q1 : l = [84, 82, 85, 69]
    · subst q1
      have hA2 : holdM 4 [84, 82, 85, 69] = some [84, 82, 85, 69] := hA
      clear hA
      refine W2 ?_
      simp [*, rkD]
    · by_cases q2 : l = [70, 65, 76, 83, 69]
      · subst q2
        have hA2 : holdM 4 [70, 65, 76, 83, 69] = some [70, 65, 76, 83, 69] := hA
        clear hA
        refine W2 ?_
        simp [*, rkD]
      · have q3 : ¬ l = yesB := q1
        have q4 : ¬ l = noB := q2
        rw [decide_eq_false q3, decide_eq_false q4] at hA
        have hA2 : holdM 4 l = none := hA
        clear hA q3 q4
        refine W2 ?_
        simp [*, rkD]
  by_cases h6 : s = 5
  · subst h6
    have hA : holdM 5 l = some l := hold_some (by decide) hl5 rfl
    refine W2 ?_
    simp [*, rkD]
  by_cases h7 : s = 7
  · subst h7
    have hA : holdM 7 l = numericM l := by
      cases q : numericM l with
      | none => exact hold_none (.inl (by show (numericM l).isSome = false; rw [q]; rfl))
      | some x => rw [hold_some (by decide) hl5 (by show (numericM l).isSome = true; rw [q]; rfl)]; show some ((numericM l).getD []) = _; rw [q]; rfl
    rw [hA]
    refine W2 ?_
    refine PCalls.mono (rNumeric_spec l hl _) ?_
    intro d3 H3 hd3
    rw [hd3.1, hd3.2]
    clear hd3
    try simp [*]
    simp only [optD]
    try simp [*]
    refine W2 ?_
    simp [*, rkD]
  by_cases h8 : s = 8
  · subst h8
    have hA : holdM 8 l = (parseM l).map fun x => textF (plainF x) := by
      cases q : parseM l with
      | none => exact hold_none (.inl (by show (parseM l).isSome = false; rw [q]; rfl))
      | some x => rw [hold_some (by decide) hl5 (by show (parseM l).isSome = true; rw [q]; rfl)]; show some (textF (plainF ((parseM l).getD 0))) = _; rw [q]; rfl
    rw [hA]
    refine W2 ?_
    refine PCalls.mono (rfParse_spec l _) ?_
    intro d3 H3 hd3
    rw [hd3.1, hd3.2]
    clear hd3
    try simp [*]
    simp only [fltD]
    cases q : parseM l with
    | none =>
      try simp [*]
      refine W2 ?_
      simp [*, rkD]
    | some x =>
      try simp [*]
      refine W2 ?_
      refine PCalls.mono (rfText_spec x _) ?_
      intro d3 H3 hd3
      rw [hd3.1, hd3.2]
      clear hd3
      try simp [*]
      try simp [*]
      refine W2 ?_
      simp [*, rkD]
  by_cases h9 : s = 9
  · subst h9
    have hA : holdM 9 l = if (arcsM l).isSome || wordB l then some (objectM l) else none := by
      rw [← object_ok]
      cases q : objectOk l with
      | true => rw [hold_some (s := 9) (by decide) hl5 (show (keyM 9 l).2 = true from q)]; rfl
      | false => rw [hold_none (s := 9) (.inl (show (keyM 9 l).2 = false from q))]; rfl
    have hns := nm_small (fcls l)
    obtain ⟨ans, hans⟩ : ∃ r, holdM 9 l = r := ⟨_, rfl⟩
    rw [hans] at hA ⊢
    clear hans
    refine W2 ?_
    refine PCalls.mono (rArcs_spec l hl _) ?_
    intro d3 H3 hd3
    rw [hd3.1, hd3.2]
    clear hd3
    try simp [*]
    cases ha : arcsM l with
    | some L =>
      rw [ha] at hA
      have hA2 : ans = some (objectM l) := hA
      clear hA
      simp only [arcsD]
      try simp [*]
      refine W2 ?_
      refine PCalls.mono (rFindClass_spec l hl _) ?_
      intro d3 H3 hd3
      rw [hd3.1, hd3.2]
      clear hd3
      try simp [*]
      by_cases h : fcls l < 10
      · try simp [*]
        refine W2 ?_
        refine PCalls.mono (rLower_spec (nm (fcls l)) hns _) ?_
        intro d3 H3 hd3
        rw [hd3.1, hd3.2]
        clear hd3
        try simp [*]
        try simp [*]
        refine W2 ?_
        simp [*, rkD, objectM]
      · try simp [*]
        refine W2 ?_
        refine PCalls.mono (rLower_spec l hl _) ?_
        intro d3 H3 hd3
        rw [hd3.1, hd3.2]
        clear hd3
        try simp [*]
        try simp [*]
        refine W2 ?_
        simp [*, rkD, objectM]
    | none =>
      rw [ha] at hA
      simp only [arcsD]
      cases hw : wordB l with
      | true =>
        rw [hw] at hA
        have hA2 : ans = some (objectM l) := hA
        clear hA
        try simp [*]
        refine W2 ?_
        refine PCalls.mono (rWord_spec l hl _) ?_
        intro d3 H3 hd3
        rw [hd3.1, hd3.2]
        clear hd3
        try simp [*]
        try simp [*]
        refine W2 ?_
        refine PCalls.mono (rFindClass_spec l hl _) ?_
        intro d3 H3 hd3
        rw [hd3.1, hd3.2]
        clear hd3
        try simp [*]
        by_cases h : fcls l < 10
        · try simp [*]
          refine W2 ?_
          refine PCalls.mono (rLower_spec (nm (fcls l)) hns _) ?_
          intro d3 H3 hd3
          rw [hd3.1, hd3.2]
          clear hd3
          try simp [*]
          try simp [*]
          refine W2 ?_
          simp [*, rkD, objectM]
        · try simp [*]
          refine W2 ?_
          refine PCalls.mono (rLower_spec l hl _) ?_
          intro d3 H3 hd3
          rw [hd3.1, hd3.2]
          clear hd3
          try simp [*]
          try simp [*]
          refine W2 ?_
          simp [*, rkD, objectM]
      | false =>
        rw [hw] at hA
        have hA2 : ans = none := hA
        clear hA
        try simp [*]
        refine W2 ?_
        refine PCalls.mono (rWord_spec l hl _) ?_
        intro d3 H3 hd3
        rw [hd3.1, hd3.2]
        clear hd3
        try simp [*]
        try simp [*]
        refine W2 ?_
        simp [*, rkD]
  have hh : holdM s l = none := hold_none (.inr (.inl (by simp [isRule, h1, h2, h3, h4, h6, h7, h8, h9])))
  rw [hh]
  refine W2 ?_
  simp [*, rkD]
set_option maxRecDepth 100000 in
theorem rKey_spec (s : Int) (l : By) (hl : l.length ≤ 100000) (H : Heap) : PCalls Tryz.prog 14 [.val (.int .i64 s), sD l] H fun d H' => d = rkD (holdM s l) ∧ H' = H :=
  PCalls.liftG (rKey_local s l hl) (fun d hd => by
    simp only [List.mem_cons, List.mem_nil_iff, or_false] at hd
    rcases hd with rfl | rfl <;> exact .val _) (pure_optK _ _) H
end Go.Pv
