/- A part of the proof: functions of the program, walked, or what operations come to. -/
import Derived.Test.YtpedcchnhjffpaaGreatPvV1
import Derived.Test.YtpedcchnhjffpaaGreatPvN1
import Derived.Test.YtpedcchnhjffpaaGreatPvF1
import Derived.Test.YtpedcchnhjffpaaGreatPvSh
import Derived.Test.YtpedcchnhjffpaaGreatShelf
-- ZpvTameA ZpvDrawT
namespace Go.Pv
open Go.Proofs
attribute [-simp] eLen UInt8.ofNat_add

def isLet (c : UInt8) : Bool := decide (97 ≤ c.toNat ∧ c.toNat ≤ 122) || decide (65 ≤ c.toNat ∧ c.toNat ≤ 90)
def isSign (c : UInt8) : Bool := isLet c || isDig c || decide (c.toNat = 45)
set_option maxRecDepth 100000 in
theorem letter_spec (c : UInt8) (H : Heap) : PCalls Tryz.prog 186 [.val (.int .u8 (c.toNat : Nat))] H fun d H' => d = .val (.bool (isLet c)) ∧ H' = H := of_bytes mixedO (by kernel_rfl) c H
def signsB (l : By) : Bool := !l.isEmpty && l.all isSign
set_option maxRecDepth 100000 in
theorem signs_spec (l : By) (hl : l.length ≤ 100000) (H : Heap) : PCalls Tryz.prog 185 [sD l] H fun d H' => d = .val (.bool (signsB l)) ∧ H' = H := by
  refine PCalls.of_pwp Tryz.call185 Tryz.func185 rfl (by simp [Tryz.ntmps185]) ?_
  rw [Tryz.ntmps185]
  refine W2 ?_
  refine pwp_for (l.length) (fun k st => st.env.n = 31 ∧ st.df = [] ∧ st.H = H ∧ st.env.get 0 = sD l ∧ st.env.get 6 = .val (.int .i64 l.length) ∧ st.env.get 7 = .val (.int .i64 k) ∧ ((l.take k).all isSign = true)) ⟨by first | (simp; done) | (simp [*]; done), rfl, by first | rfl | simp, by first | (simp; done) | (simp [*]; done), by first | (simp; done) | (simp [*]; done), by first | (simp; done) | (simp [*]; done), by first | (simp; done) | (simp [*]; done)⟩ ?_ ?_
  · rintro k ⟨E, Hx, df⟩ hk ⟨en, edf, eH, e0, e6, e7, eP⟩
    simp only at en edf eH e0 e6 e7
    subst edf; replace eH := eH.symm; subst eH
    have hki : (k : Int) < ((l.length : Nat) : Int) := by omega
    have hkw := wrapSucc k (by omega)
    obtain ⟨c, hc⟩ : ∃ c, l[k]? = some c := ⟨_, List.getElem?_eq_getElem (by omega)⟩
    have bc : byteAt l k = (c.toNat : Int) := byteAt_of hc
    have lc := toNat_lt c
    refine W2 ?_
    refine PCalls.mono (letter_spec c _) ?_
    intro d3 H3 hd3
    rw [hd3.1, hd3.2]
    clear hd3
    try simp [*]
    have hs := all_take_succ isSign l k c hc
    rw [eP, Bool.true_and] at hs
    by_cases h1 : isLet c = true
    · have h2 : isSign c = true := by simp [isSign, h1]
      try simp [*]
      refine W2 ?_
      simp [*]
    · have h1' : isLet c = false := by simpa using h1
      by_cases h3 : (c.toNat : Int) = 45
      · have h2 : isSign c = true := by simp [isSign]; right; omega
        try simp [*]
        refine W2 ?_
        simp [*]
      · by_cases h4 : (c.toNat : Int) < 48
        · have h2 : isSign c = false := by simp [isSign, isDig, h1']; omega
          have h5 := all_not isSign l k c hc h2
          try simp [*]
          refine W2 ?_
          simp [*, signsB]
        · by_cases h6 : 57 < (c.toNat : Int)
          · have h2 : isSign c = false := by simp [isSign, isDig, h1']; omega
            have h5 := all_not isSign l k c hc h2
            try simp [*]
            refine W2 ?_
            simp [*, signsB]
          · have h2 : isSign c = true := by simp [isSign, isDig]; omega
            try simp [*]
            refine W2 ?_
            simp [*]
  · rintro ⟨E, Hx, df⟩ ⟨en, edf, eH, e0, e6, e7, eP⟩
    simp only at en edf eH e0 e6 e7
    subst edf; replace eH := eH.symm; subst eH
    rw [List.take_length] at eP
    refine W2 ?_
    simp [*, signsB]
    cases l <;> simp
def wordB (l : By) : Bool := signsB l && isLet (hd0 l) && decide (l.length ≤ 64)
theorem head_of {l : By} (h : signsB l = true) : ∃ c, l[0]? = some c ∧ hd0 l = c ∧ 0 < l.length := by
  cases l with
  | nil => simp [signsB] at h
  | cons c l => exact ⟨c, rfl, rfl, by simp⟩
set_option maxRecDepth 100000 in
theorem Word_spec (l : By) (hl : l.length ≤ 100000) (H : Heap) : PCalls Tryz.prog 182 [sD l] H fun d H' => d = .val (.bool (wordB l)) ∧ H' = H := by
  refine PCalls.of_pwp Tryz.call182 Tryz.func182 rfl (by simp [Tryz.ntmps182]) ?_
  rw [Tryz.ntmps182]
  refine W2 ?_
  refine PCalls.mono (signs_spec l hl _) ?_
  intro d3 H3 hd3
  rw [hd3.1, hd3.2]
  clear hd3
  try simp [*]
  by_cases h1 : signsB l = true
  · obtain ⟨c, hc, hd, hz⟩ := head_of h1
    have bc : byteAt l 0 = (c.toNat : Int) := byteAt_of hc
    simp [*]
    refine PCalls.mono (letter_spec c _) ?_
    intro d3 H3 hd3
    rw [hd3.1, hd3.2]
    clear hd3
    try simp [*]
    by_cases h2 : isLet c = true
    · try simp [*]
      refine W2 ?_
      simp [*, wordB]
      omega
    · have h2' : isLet c = false := by simpa using h2
      try simp [*]
      refine W2 ?_
      simp [*, wordB]
  · have h1' : signsB l = false := by simpa using h1
    try simp [*]
    refine W2 ?_
    simp [*, wordB]
def rdD (o : Option Nat) : D := .tup [.val (.int .i64 ((o.getD 0 : Nat) : Int)), .val (.bool o.isSome)]
theorem digVal_small {l : By} {k : Nat} (h : l.all isDig = true) (hl : l.length ≤ 18) (hk : k < l.length) : digVal (l.take k) < 100000000000000000 := by
  have h1 : (l.take k).all isDig = true := List.all_eq_true.2 fun x hx => List.all_eq_true.1 h x (List.mem_of_mem_take hx)
  have h2 := digVal_lt _ h1
  have h3 : (l.take k).length ≤ 17 := by rw [List.length_take]; omega
  exact Nat.lt_of_lt_of_le h2 (Nat.pow_le_pow_right (by decide) h3)
set_option maxRecDepth 100000 in
theorem ReadDigits_spec (l : By) (hl : l.length ≤ 100000) (H : Heap) : PCalls Tryz.prog 188 [sD l] H fun d H' => d = rdD (readDigits l) ∧ H' = H := by
  refine PCalls.of_pwp Tryz.call188 Tryz.func188 rfl (by simp [Tryz.ntmps188]) ?_
  rw [Tryz.ntmps188]
  refine W2 ?_
  refine PCalls.mono (plainDigits_spec l hl _) ?_
  intro d3 H3 hd3
  rw [hd3.1, hd3.2]
  clear hd3
  try simp [*]
  by_cases h1 : digsB l = true
  · have h1c := h1
    simp only [digsB, Bool.and_eq_true, Bool.not_eq_true', List.isEmpty_eq_false_iff] at h1c
    obtain ⟨hn, hall⟩ := h1c
    by_cases h2 : 18 < (l.length : Int)
    · have hr : readDigits l = none := by
        rw [readDigits, if_neg]; simp [numOk]; intros; omega
      try simp [*]
      refine W2 ?_
      simp [*, rdD]
    · obtain ⟨c, hc0⟩ : ∃ c, l[0]? = some c := ⟨_, List.getElem?_eq_getElem (List.length_pos_iff.2 hn)⟩
      have hcd := hd0_of hc0
      have bc : byteAt l 0 = (c.toNat : Int) := byteAt_of hc0
      have b0 : byteAt [48] 0 = 48 := rfl
      have hz : 0 < l.length := List.length_pos_iff.2 hn
      by_cases h3 : 1 < (l.length : Int) ∧ (c.toNat : Int) = 48
      · obtain ⟨h3, h4⟩ := h3
        have hr : readDigits l = none := by
          rw [readDigits, if_neg]; simp [numOk, hcd]; intros
          exact ⟨by omega, UInt8.toNat_inj.1 (by simpa using (by omega : c.toNat = 48))⟩
        try simp [*]
        refine W2 ?_
        simp [*, rdD]
      · have hr : readDigits l = some (digVal l) := by
          rw [readDigits, if_pos]; simp [numOk, hcd, hn, hall]
          refine ⟨by omega, ?_⟩
          by_cases q : l.length ≤ 1
          · exact .inl q
          · right; intro e; subst e; exact h3 ⟨by omega, rfl⟩
        have hKeep := Hold.mk hall
        clear hall
        have fin : ∀ (k : Nat), k < l.length → digVal (l.take k) < 100000000000000000 := fun k hk => digVal_small hKeep.out (by omega) hk
        by_cases h4 : 1 < (l.length : Int)
        case' pos =>
          have h5 : ¬ (c.toNat : Int) = 48 := fun q => h3 ⟨h4, q⟩
          clear h3
          try simp [*]
          refine W2 ?_
        case' neg =>
          try simp [*]
          refine W2 ?_
        all_goals
          clear bc b0
          refine pwp_for (l.length) (fun k st => st.env.n = 40 ∧ st.df = [] ∧ st.H = H ∧ st.env.get 0 = sD l ∧ st.env.get 26 = .val (.int .i64 l.length) ∧ st.env.get 27 = .val (.int .i64 k) ∧ st.env.get 4 = .val (.int .i64 (digVal (l.take k) : Nat))) ⟨by first | (simp; done) | (simp [*]; done), rfl, by first | rfl | simp, by first | (simp; done) | (simp [*]; done), by first | (simp; done) | (simp [*]; done), by first | (simp; done) | (simp [*]; done), by first | (simp; done) | (simp [*]; done)⟩ ?_ ?_
          · rintro k ⟨E, Hx, df⟩ hk ⟨en, edf, eH, e0, e26, e27, e4⟩
            simp only at en edf eH e0 e26 e27 e4
            subst edf; replace eH := eH.symm; subst eH
            have hki : (k : Int) < ((l.length : Nat) : Int) := by omega
            have hkw := wrapSucc k (by omega)
            obtain ⟨x, hx⟩ : ∃ x, l[k]? = some x := ⟨_, List.getElem?_eq_getElem (by omega)⟩
            have bx : byteAt l k = (x.toNat : Int) := byteAt_of hx
            have lx := toNat_lt x
            have hx : isDig x = true := List.all_eq_true.1 hKeep.out x (List.mem_of_getElem? hx)
            simp only [isDig, decide_eq_true_eq] at hx
            have hv := digVal_take l k x (by assumption)
            have hf := fin k hk
            obtain ⟨v, hvk⟩ : ∃ v, digVal (l.take k) = v := ⟨_, rfl⟩
            rw [hvk] at hv hf e4
            have w1 := wrapI ((v : Int) * 10) (by omega) (by omega)
            have w2 := wrapB ((x.toNat : Int) - 48) (by omega) (by omega)
            have w3 := wrapI ((x.toNat : Int) - 48) (by omega) (by omega)
            have w4 : IntKind.i64.wrap ((v : Int) * 10 + ((x.toNat : Int) - 48)) = ((v * 10 + (x.toNat - 48) : Nat) : Int) := by rw [wrapI _ (by omega) (by omega)]; omega
            refine W2 ?_
            simp [*]
          · rintro ⟨E, Hx, df⟩ ⟨en, edf, eH, e0, e26, e27, e4⟩
            simp only at en edf eH e0 e26 e27 e4
            subst edf; replace eH := eH.symm; subst eH
            rw [List.take_length] at e4
            refine W2 ?_
            simp [*, rdD]
  · have h1' : digsB l = false := by simpa using h1
    have hr : readDigits l = none := by
      rw [readDigits, if_neg]
      intro q
      simp only [numOk, Bool.and_eq_true] at q
      rw [digsB, q.1.1.1, q.1.1.2] at h1'
      cases h1'
    try simp [*]
    refine W2 ?_
    simp [*, rdD]
end Go.Pv
-- ZpvTameA ZpvDrawT
namespace Go.Pv
open Go.Proofs
attribute [-simp] eLen UInt8.ofNat_add

/-! ### strings.Split by one sign -/
theorem toU8 (c : UInt8) : ((c.toNat : Int)).toNat.toUInt8 = c := by simp
set_option maxRecDepth 100000 in
theorem CountString_spec (l : By) (c : UInt8) (H : Heap) : PCalls Tryz.prog 167 [sD l, .val (.int .u8 (c.toNat : Nat))] H fun d H' => d = .val (.int .i64 ((l.count c : Nat) : Int)) ∧ H' = H := by
  refine (prOf_sound (x := (167, .count)) ⟨_, Tryz.func167, by kernel_rfl, by kernel_rfl, by kernel_rfl, by kernel_rfl⟩ rfl).mono ?_
  rintro d H' ⟨rfl, rfl⟩
  rw [toU8]
  exact ⟨rfl, rfl⟩
set_option maxRecDepth 100000 in
theorem IndexByteString_spec (l : By) (c : UInt8) (H : Heap) : PCalls Tryz.prog 103 [sD l, .val (.int .u8 (c.toNat : Nat))] H fun d H' => d = .val (.int .i64 (Lib.indexByte l c)) ∧ H' = H := by
  refine (prOf_sound (x := (103, .indexByte)) ⟨_, Tryz.func103, by kernel_rfl, by kernel_rfl, by kernel_rfl, by kernel_rfl⟩ rfl).mono ?_
  rintro d H' ⟨rfl, rfl⟩
  rw [toU8]
  exact ⟨rfl, rfl⟩
set_option maxHeartbeats 4000000 in
set_option maxRecDepth 100000 in
theorem slIndexByte_spec (l : By) (c : UInt8) (H : Heap) : PCalls Tryz.prog 94 [sD l, .val (.int .u8 (c.toNat : Nat))] H fun d H' => d = .val (.int .i64 (Lib.indexByte l c)) ∧ H' = H := by
  refine PCalls.of_pwp Tryz.call94 Tryz.func94 rfl (by simp [Tryz.ntmps94]) ?_
  rw [Tryz.ntmps94]
  refine W2 ?_
  refine PCalls.mono (IndexByteString_spec l c _) ?_
  intro d3 H3 hd3
  rw [hd3.1, hd3.2]
  clear hd3
  try simp [*]
  refine W2 ?_
  simp [*]
set_option maxHeartbeats 4000000 in
set_option maxRecDepth 100000 in
theorem slIndex1_spec (l : By) (c : UInt8) (H : Heap) : PCalls Tryz.prog 168 [sD l, sD [c]] H fun d H' => d = .val (.int .i64 (Lib.indexByte l c)) ∧ H' = H := by
  refine PCalls.of_pwp Tryz.call168 Tryz.func168 rfl (by simp [Tryz.ntmps168]) ?_
  rw [Tryz.ntmps168]
  have bc : byteAt [c] 0 = (c.toNat : Int) := rfl
  by_cases he : [c] = l
  · subst he
    refine W2 ?_
    simp [Lib.indexByte]
  · refine W2 ?_
    refine PCalls.mono (slIndexByte_spec l c _) ?_
    intro d3 H3 hd3
    rw [hd3.1, hd3.2]
    clear hd3
    try simp [*]
    refine W2 ?_
    simp [*]
set_option maxHeartbeats 4000000 in
set_option maxRecDepth 100000 in
theorem Index1_spec (l : By) (c : UInt8) (H : Heap) : PCalls Tryz.prog 165 [sD l, sD [c]] H fun d H' => d = .val (.int .i64 (Lib.indexByte l c)) ∧ H' = H := by
  refine PCalls.of_pwp Tryz.call165 Tryz.func165 rfl (by simp [Tryz.ntmps165]) ?_
  rw [Tryz.ntmps165]
  refine W2 ?_
  refine PCalls.mono (slIndex1_spec l c _) ?_
  intro d3 H3 hd3
  rw [hd3.1, hd3.2]
  clear hd3
  try simp [*]
  refine W2 ?_
  simp [*]
set_option maxHeartbeats 4000000 in
set_option maxRecDepth 100000 in
theorem Count1_spec (l : By) (c : UInt8) (H : Heap) : PCalls Tryz.prog 164 [sD l, sD [c]] H fun d H' => d = .val (.int .i64 ((l.count c : Nat) : Int)) ∧ H' = H := by
  refine PCalls.of_pwp Tryz.call164 Tryz.func164 rfl (by simp [Tryz.ntmps164]) ?_
  rw [Tryz.ntmps164]
  have bc : byteAt [c] 0 = (c.toNat : Int) := rfl
  refine W2 ?_
  refine PCalls.mono (CountString_spec l c _) ?_
  intro d3 H3 hd3
  rw [hd3.1, hd3.2]
  clear hd3
  try simp [*]
  refine W2 ?_
  simp [*]
set_option maxHeartbeats 4000000 in
set_option maxRecDepth 100000 in
theorem genSplit1_local (l : By) (c : UInt8) (hl : l.length ≤ 100000) : PCalls Tryz.prog 189 [sD l, sD [c], .val (.int .i64 0), .val (.int .i64 (-1))] (noHeap noG) fun d H' => fz Tryz.prog 3 H' d = some (.slice 0 9 ((splitB c l).map sD)) := by
  refine PCalls.of_pwp Tryz.call189 Tryz.func189 rfl (by simp [Tryz.ntmps189]) ?_
  rw [Tryz.ntmps189]
  have hL := splitB_len c l
  have hcl : l.count c ≤ l.length := List.count_le_length
  obtain ⟨N, hN⟩ : ∃ N, l.count c = N := ⟨_, rfl⟩
  obtain ⟨L, hLe⟩ : ∃ L, splitB c l = L := ⟨_, rfl⟩
  rw [hN, hLe] at hL
  rw [hN] at hcl
  have w1 := wrapI ((N : Int) + 1) (by omega) (by omega)
  have w2 := wrapI ((l.length : Int) + 1) (by omega) (by omega)
  have w3 := wrapI ((N : Int) + 1 - 1) (by omega) (by omega)
  have m1 : ¬ (l.length : Int) + 1 < (N : Int) + 1 := by omega
  have s1 : 0 ≤ (N : Int) + 1 := by omega
  have s2 : 16 * ((N : Int) + 1) ≤ 281474976710656 := by omega
  have s3 : ((N : Int) + 1) ≤ 9223372036854775807 := by omega
  refine W2 ?_
  refine PCalls.mono (Count1_spec l c _) ?_
  intro d3 H3 hd3
  rw [hd3.1, hd3.2]
  clear hd3
  try simp [*]
  have w4 := wrapI (N : Int) (by omega) (by omega)
  refine W2 ?_
  clear w1 w2 w3 m1 s1 s2 s3
  have hA : (L.map sD).length = N + 1 := by simpa using hL
  obtain ⟨A, hAe⟩ : ∃ A, L.map sD = A := ⟨_, rfl⟩
  rw [hAe] at hA
  refine pwp_for (N) (fun k st => st.env.n = 66 ∧ st.df = [] ∧ st.env.get 1 = sD [c] ∧ st.env.get 2 = .val (.int .i64 0) ∧ st.env.get 3 = .val (.int .i64 (N : Nat)) ∧ st.env.get 9 = .row 0 9 0 (N + 1) ∧ st.env.get 10 = .val (.int .i64 (k : Nat)) ∧ ((∃ r, st.env.get 0 = sD r ∧ splitB c r = L.drop k ∧ r.length ≤ 100000) ∧ st.H.get 0 = some (.row 9 (fill A k (sD []))))) ⟨by first | (simp; done) | (simp [*]; done), rfl, by first | (simp; done) | (simp [*]; done), by first | (simp; done) | (simp [*]; done), by first | (simp; done) | (simp [*]; done), by first | (simp; done) | (simp [*]; done), by first | (simp; done) | (simp [*]; done), ?_⟩ ?_ ?_
  · refine ⟨⟨l, by simp, by simpa using hLe, hl⟩, ?_⟩
    simp [fill_zero, hA]
  · rintro k ⟨E, Hx, df⟩ hk ⟨en, edf, e1, e2, e3, e9, e10, eP⟩
    simp only at en edf e1 e2 e3 e9 e10
    subst edf
    have hki : (k : Int) < ((N : Nat) : Int) := by omega
    have hkw := wrapSucc k (by omega)
    obtain ⟨⟨r, e0, er, hr⟩, eH⟩ := eP
    simp only at e0 eH
    have hk1 : k < L.length := by omega
    have hk2 : k + 1 < L.length := by omega
    rw [List.drop_eq_getElem_cons hk1, List.drop_eq_getElem_cons hk2] at er
    obtain ⟨r2, h1, h2, h3⟩ := splitB_two c r _ _ _ er
    obtain ⟨p, hp⟩ : ∃ p, L[k] = p := ⟨_, rfl⟩
    rw [hp] at h1 h2
    have hi := indexByte_at c p r2 h2
    rw [← h1] at hi
    have hlen : r.length = p.length + r2.length + 1 := by rw [h1]; simp; omega
    have h4 : splitB c r2 = L.drop (k + 1) := by rw [h3, ← List.drop_eq_getElem_cons hk2]
    have hpA : A[k]? = some (sD p) := by rw [← hAe, List.getElem?_map, List.getElem?_eq_getElem hk1, hp]; rfl
    have hg := fill_get A k (sD []) (by omega)
    have hst := fill_set A k (sD []) (sD p) hpA
    have hfl := fill_len A k (sD []) (by omega)
    have t1 : r.take p.length = p := by rw [h1]; simp
    have t2 : r.drop (p.length + 1) = r2 := by rw [h1, List.drop_append, List.drop_eq_nil_of_le (by omega)]; simp
    have hi0 : ¬ (p.length : Int) < 0 := by omega
    have v1 := wrapI ((p.length : Int)) (by omega) (by omega)
    have v2 := wrapI ((p.length : Int) + 1) (by omega) (by omega)
    have v3 : (p.length : Int) ≤ (r.length : Int) := by omega
    have v4 : (p.length : Int) + 1 ≤ (r.length : Int) := by omega
    have kp := Hold.mk (And.intro hpA (And.intro hr (And.intro hlen h4)))
    clear h1 h2 h3 er hp hpA hlen h4 hk1 hk2 hLe hN hcl
    simp only [sD] at hg hst
    have hge := get_of hg
    have v6 : (k : Int) < (N : Int) + 1 := by omega
    refine W2 ?_
    refine PCalls.mono (Index1_spec r c _) ?_
    intro d3 H3 hd3
    rw [hd3.1, hd3.2]
    clear hd3
    try simp [*]
    refine W2 ?_
    try simp [*]
    obtain ⟨hpA, hr, hlen, h4⟩ := kp.out
    first
    | exact ⟨h4, by omega⟩
    | exact ⟨r2, rfl, h4, by omega⟩
    | exact ⟨⟨r2, rfl, h4, by omega⟩, hst⟩
    | exact ⟨by simp [*], rfl, by simp [*], by simp [*], by simp [*], by simp [*], by simp [*], ⟨r2, by simp [*], h4, by omega⟩, by simpa [en] using hst⟩
    | (trace_state; done)
  · rintro ⟨E, Hx, df⟩ ⟨en, edf, e1, e2, e3, e9, e10, eP⟩
    simp only at en edf e1 e2 e3 e9 e10
    subst edf
    obtain ⟨⟨r, e0, er, hr⟩, eH⟩ := eP
    simp only at e0 eH
    have hk1 : N < L.length := by omega
    rw [List.drop_eq_getElem_cons hk1, List.drop_eq_nil_of_le (by omega)] at er
    have hrp := splitB_one c r _ er
    have hpA : A[N]? = some (sD r) := by rw [← hAe, List.getElem?_map, List.getElem?_eq_getElem hk1, hrp]; rfl
    have hg := fill_get A N (sD []) (by omega)
    have hst := fill_set A N (sD []) (sD r) hpA
    have hal := fill_all A (sD [])
    rw [hA] at hal
    rw [hal] at hst
    have hfl := fill_len A N (sD []) (by omega)
    have v1 := wrapI ((N : Int) + 1) (by omega) (by omega)
    have v4 : (N : Int) < (N : Int) + 1 := by omega
    have v5 : 0 ≤ (N : Int) + 1 := by omega
    have hm : mapO (fz Tryz.prog 2 (Hx.put 0 (some (.row 9 A)))) A = some A := by rw [← hAe]; exact fz_vals (fun s : By => .string ⟨s.toArray⟩) 1 _ L
    have kp := Hold.mk (And.intro hLe (And.intro hAe hm))
    clear hpA hrp er hLe hAe hN hcl hk1 hm
    simp only [sD] at hg hst
    have hge := get_of hg
    refine W2 ?_
    simp [*]
    obtain ⟨hLe, hAe, hm⟩ := kp.out
    rw [hLe, hAe, fz]
    simp only [Heap.put_same]
    rw [if_pos ⟨trivial, by omega⟩, List.drop_zero, ← hA, List.take_length, hm]
    simp [hA]
set_option maxHeartbeats 4000000 in
set_option maxRecDepth 100000 in
theorem Split1_local (l : By) (c : UInt8) (hl : l.length ≤ 100000) : PCalls Tryz.prog 187 [sD l, sD [c]] (noHeap noG) fun d H' => d = .slice 0 9 ((splitB c l).map sD) := by
  refine PCalls.of_pwp Tryz.call187 Tryz.func187 rfl (by simp [Tryz.ntmps187]) ?_
  rw [Tryz.ntmps187]
  refine W2 ?_
  refine PCalls.mono (PCalls.frozen (genSplit1_local l c hl)) ?_
  rintro d H rfl
  try simp
  refine W2 ?_
  simp
set_option maxRecDepth 100000 in
theorem Split1_spec (l : By) (c : UInt8) (hl : l.length ≤ 100000) (H : Heap) : PCalls Tryz.prog 187 [sD l, sD [c]] H fun d H' => d = .slice 0 9 ((splitB c l).map sD) ∧ H' = H :=
  PCalls.liftG (Split1_local l c hl) (fun d hd => by
    simp only [List.mem_cons, List.mem_nil_iff, or_false] at hd
    rcases hd with rfl | rfl <;> exact .val _) (pure_strs _ _ _) H
end Go.Pv
-- ZpvTameA ZpvDrawT
namespace Go.Pv
open Go.Proofs
attribute [-simp] eLen UInt8.ofNat_add

/-! ### The numbers of an identifier -/
def arcsD (o : Option (List Nat)) : D := match o with
  | some L => .tup [.slice 0 3 (L.map natD), .val (.bool true)]
  | none => .tup [.slice 1 0 [], .val (.bool false)]
theorem pure_arcs (o : Option (List Nat)) : Pure (arcsD o) := by
  rcases o with _ | L
  · refine .tup _ fun d hd => ?_
    simp only [List.mem_cons, List.mem_nil_iff, or_false] at hd
    rcases hd with rfl | rfl
    · exact .slice _ _ _ fun d h => by cases h
    · exact .val _
  · refine .tup _ fun d hd => ?_
    simp only [List.mem_cons, List.mem_nil_iff, or_false] at hd
    rcases hd with rfl | rfl
    · exact pure_vals (fun n : Nat => .int .i64 (n : Nat)) 0 _ L
    · exact .val _
theorem fz_nil2 {P : Program} (n : Nat) (H : Heap) (v : Value) : fz P (n + 2) H (.tup [.slice 1 0 [], .val v]) = some (.tup [.slice 1 0 [], .val v]) := rfl
theorem fz_two {P : Program} {n : Nat} {H : Heap} {d d' : D} {v : Value} (h : fz P (n + 1) H d = some d') : fz P (n + 2) H (.tup [d, .val v]) = some (.tup [d', .val v]) := by
  rw [fz]
  simp only [mapO, h]
  rfl
theorem splitB_parts (c : UInt8) (l : By) (p : By) (h : p ∈ splitB c l) : p.length ≤ l.length := by
  induction l generalizing p with
  | nil => simp [splitB] at h; subst h; simp
  | cons x l ih =>
    simp only [splitB] at h
    split at h
    · rcases List.mem_cons.1 h with rfl | h
      · simp
      · have := ih p h; simp; omega
    · cases hs : splitB c l with
      | nil => exact absurd hs (splitB_ne _ _)
      | cons q ps =>
        rw [hs] at h ih
        rcases List.mem_cons.1 h with rfl | h
        · have := ih q (by simp); simp; omega
        · have := ih p (by simp [h]); simp; omega
theorem all_take_succ' {α : Type} (p : α → Bool) (l : List α) (k : Nat) (c : α) (h : l[k]? = some c) : (l.take (k + 1)).all p = ((l.take k).all p && p c) := by
  rw [List.take_add_one, h]; simp
theorem all_not' {α : Type} (p : α → Bool) (l : List α) (k : Nat) (c : α) (h : l[k]? = some c) (hp : p c = false) : l.all p = false := by
  cases hq : l.all p with
  | false => rfl
  | true => have := List.all_eq_true.1 hq c (List.mem_of_getElem? h); rw [hp] at this; cases this
theorem take_map_succ {α β : Type} (f : α → β) (l : List α) (k : Nat) (c : α) (h : l[k]? = some c) : (l.take (k + 1)).map f = (l.take k).map f ++ [f c] := by
  rw [List.take_add_one, h]; simp
theorem arcs_none {l : By} (h : (splitB 46 l).all okP = false ∨ 16 < (splitB 46 l).length) : arcsM l = none := by
  unfold arcsM
  rcases h with h | h
  · rw [h]; rfl
  · split
    · rw [if_neg]
      unfold arcOk
      split
      · rename_i a b r e
        have := congrArg List.length e
        simp at this
        have h2 : ¬ r.length ≤ 14 := by omega
        simp [h2]
      · simp
    · rfl
set_option maxHeartbeats 4000000 in
set_option maxRecDepth 100000 in
theorem arcs_local (l : By) (hl : l.length ≤ 100000) : PCalls Tryz.prog 184 [sD l] (noHeap noG) fun d H' => fz Tryz.prog 4 H' d = some (arcsD (arcsM l)) := by
  refine PCalls.of_pwp Tryz.call184 Tryz.func184 rfl (by simp [Tryz.ntmps184]) ?_
  rw [Tryz.ntmps184]
  have hnn : arcsM l = none → arcsD (arcsM l) = .tup [.slice 1 0 [], .val (.bool false)] := fun h => by rw [h]; rfl
  have hno := @arcs_none l
  have hps := splitB_parts 46 l
  have hdef : arcsM l = if (splitB 46 l).all okP = true then (if arcOk ((splitB 46 l).map digVal) = true then some ((splitB 46 l).map digVal) else none) else none := rfl
  obtain ⟨ps, hpe⟩ : ∃ ps, splitB 46 l = ps := ⟨_, rfl⟩
  obtain ⟨r, hr⟩ : ∃ r, arcsM l = r := ⟨_, rfl⟩
  have hSp := Split1_spec l 46 hl
  have hpl : ps.length ≤ 100001 := by rw [← hpe, splitB_len]; have := List.count_le_length (a := (46 : UInt8)) (l := l); omega
  rw [hpe] at hno hps hdef hSp
  rw [hr] at hno hdef hnn ⊢
  obtain ⟨N, hN⟩ : ∃ N, ps.map (fun p => natD (digVal p)) = N := ⟨_, rfl⟩
  have hNl : N.length = ps.length := by rw [← hN]; simp
  refine W2 ?_
  refine PCalls.mono (hSp _) ?_
  intro d3 H3 hd3
  rw [hd3.1, hd3.2]
  clear hd3
  try simp [*]
  refine W2 ?_
  refine pwp_for (ps.length) (fun k st => st.env.n = 60 ∧ st.df = [] ∧ st.env.get 10 = .slice 0 9 (ps.map sD) ∧ st.env.get 11 = .val (.int .i64 (ps.length : Nat)) ∧ st.env.get 12 = .val (.int .i64 (k : Nat)) ∧ (Hold ((ps.take k).all okP = true ∧ k ≤ 16) ∧ ∃ d, st.env.get 4 = d ∧ Grow st.H d 3 (N.take k))) ⟨by first | (simp; done) | (simp [*]; done), rfl, by first | (simp; done) | (simp [*]; done), by first | (simp; done) | (simp [*]; done), by first | (simp; done) | (simp [*]; done), ?_⟩ ?_ ?_
  · exact ⟨⟨by simp, by omega⟩, .slice 1 0 [], by simp, by simpa using Grow.nil _ _⟩
  · rintro k ⟨E, Hx, df⟩ hk ⟨en, edf, e10, e11, e12, eP⟩
    simp only at en edf e10 e11 e12
    subst edf
    have hki : (k : Int) < ((ps.length : Nat) : Int) := by omega
    have hkw := wrapSucc k (by omega)
    obtain ⟨⟨hall, hk16⟩, d, e4, hG⟩ := eP
    simp only at e4 hG
    obtain ⟨p, hp⟩ : ∃ p, ps[k]? = some p := ⟨_, List.getElem?_eq_getElem hk⟩
    have hpp := hps p (List.mem_of_getElem? hp)
    have hpm : (ps.map sD)[k]? = some (sD p) := by rw [List.getElem?_map, hp]; rfl
    have hgd : (ps.map sD).getD k .undef = sD p := by rw [List.getD, hpm]; rfl
    have hgl := get_of hpm
    have hgl2 := get_of hp
    have hml : (ps.map sD).length = ps.length := by simp
    have hs := all_take_succ' okP ps k p hp
    rw [hall, Bool.true_and] at hs
    have hNk : N[k]? = some (natD (digVal p)) := by rw [← hN, List.getElem?_map, hp]; rfl
    have htm : N.take (k + 1) = N.take k ++ [natD (digVal p)] := by rw [List.take_add_one, hNk]; rfl
    simp only [natD] at htm hNk
    have hR := ReadDigits_spec p (by omega)
    have hb : (N.take k).length = k := by simp; omega
    have hlen := lenG71 hG
    rw [hb] at hlen
    have kp := Hold.mk (And.intro hall (And.intro hno hnn))
    clear hall hno hnn hps hdef hpp hSp
    simp only [sD] at hgd hgl
    by_cases ho : okP p = true
    · obtain ⟨hrd, hp10, hlt⟩ := okP_read ho
      have hp10' : ¬ 10 < (p.length : Int) := by omega
      rw [ho] at hs
      simp only [hrd, rdD, Option.getD, Option.isSome] at hR
      by_cases h16 : k = 16
      · have hrn : r = none := kp.out.2.1 (.inr (by omega))
        have hfin := kp.out.2.2 hrn
        subst h16
        have hk3 : (16 : Int) < (ps.length : Int) := by omega
        rw [hfin]
        refine W2 ?_
        refine PCalls.mono (hR _) ?_
        intro d3 H3 hd3
        rw [hd3.1, hd3.2]
        clear hd3
        try simp [*]
        try simp [*]
        refine W2 ?_
        simp [*]
        rfl
      · have h16' : ¬ (k : Int) = 16 := by omega
        refine W2 ?_
        refine PCalls.mono (hR _) ?_
        intro d3 H3 hd3
        rw [hd3.1, hd3.2]
        clear hd3
        try simp [*]
        try simp [*]
        refine W2 ?_
        refine oK_grow hG ?_ ?_
        · first | (simp; done) | (simp; omega) | omega
        intro d2 H2 hG2 hn2 hH2 hf2
        try simp [*]
        refine W2 ?_
        simp [*]
        have hh : Hold ((ps.take (k + 1)).all okP = true ∧ k + 1 ≤ 16) := ⟨hs, by omega⟩
        first
        | exact ⟨by omega⟩
        | exact ⟨⟨by omega⟩, hG2⟩
        | exact ⟨by simpa using hh, hG2⟩
        | (trace_state; done)
    · have ho' : okP p = false := by simpa using ho
      have hrn : r = none := kp.out.2.1 (.inl (all_not' okP ps k p hp ho'))
      have hfin := kp.out.2.2 hrn
      rw [hfin]
      by_cases hp10 : 10 < (p.length : Int)
      · obtain ⟨o, hrd⟩ : ∃ o, readDigits p = o := ⟨_, rfl⟩
        rw [hrd] at hR
        rcases o with _ | n
        · simp only [rdD, Option.getD, Option.isSome] at hR
          refine W2 ?_
          refine PCalls.mono (hR _) ?_
          intro d3 H3 hd3
          rw [hd3.1, hd3.2]
          clear hd3
          try simp [*]
          try simp [*]
          refine W2 ?_
          simp [*]
          rfl
        · simp only [rdD, Option.getD, Option.isSome] at hR
          refine W2 ?_
          refine PCalls.mono (hR _) ?_
          intro d3 H3 hd3
          rw [hd3.1, hd3.2]
          clear hd3
          try simp [*]
          try simp [*]
          refine W2 ?_
          simp [*]
          rfl
      · have hrd := okP_not ho' (by omega)
        simp only [hrd, rdD, Option.getD, Option.isSome] at hR
        refine W2 ?_
        refine PCalls.mono (hR _) ?_
        intro d3 H3 hd3
        rw [hd3.1, hd3.2]
        clear hd3
        try simp [*]
        try simp [*]
        refine W2 ?_
        simp [*]
        rfl
  · rintro ⟨E, Hx, df⟩ ⟨en, edf, e10, e11, e12, eP⟩
    simp only at en edf e10 e11 e12
    subst edf
    obtain ⟨⟨hall, h16⟩, d, e4, hG⟩ := eP
    simp only [List.take_length] at e4 hG hall
    rw [hall, if_pos rfl] at hdef
    have hlen := lenG71 hG
    rw [List.take_of_length_le (by omega)] at hG hlen
    rw [hNl] at hlen
    rw [← hN] at hG
    clear hno hps hSp hN hNl
    rcases ps with _ | ⟨pa, ps⟩
    · exact absurd hpe (splitB_ne _ _)
    rcases ps with _ | ⟨pb, ps⟩
    · have hrn : r = none := by rw [hdef]; rfl
      rw [hnn hrn]
      simp only [List.length_cons, List.length_nil, Nat.zero_add] at *
      refine W2 ?_
      simp [*]
      rfl
    · rcases hG with ⟨hb, _⟩ | ⟨i, hi, rfl, hgi, _⟩
      · simp at hb
      have hl2 : ¬ ((ps.length : Int) + 1 + 1 < 2) := by omega
      have hl3 : (1 : Int) < (ps.length : Int) + 1 + 1 := by omega
      have hl4 : (0 : Int) < (ps.length : Int) + 1 + 1 := by omega
      simp only [List.map_cons, List.length_cons, List.length_map] at *
      have hr14 : (List.map digVal ps).length ≤ 14 := by simp; omega
      have hao : arcOk (digVal pa :: digVal pb :: List.map digVal ps) = (decide (digVal pa ≤ 2) && (decide (2 ≤ digVal pa) || decide (digVal pb < 40))) := by
        simp only [arcOk, hr14, decide_true, Bool.true_and]
      rw [hao] at hdef
      have hfz : ∀ H : Heap, mapO (fz Tryz.prog 2 H) (natD (digVal pa) :: natD (digVal pb) :: List.map (fun p => natD (digVal p)) ps) = some (natD (digVal pa) :: natD (digVal pb) :: List.map (fun p => natD (digVal p)) ps) := fun H =>
        fz_vals (fun p : By => .int .i64 ((digVal p : Nat) : Int)) 1 H (pa :: pb :: ps)
      have kp := Hold.mk hfz
      generalize hA : List.map (fun p => natD (digVal p)) ps = A at *
      have hAl : A.length = ps.length := by rw [← hA]; simp
      clear hao hr14 hfz hlen
      generalize digVal pa = a at *
      generalize digVal pb = b at *
      have fin : r = some (a :: b :: List.map digVal ps) → fz Tryz.prog 4 Hx (.tup [.row i 3 0 (ps.length + 1 + 1), .val (.bool true)]) = some (arcsD (some (a :: b :: List.map digVal ps))) := fun _ => by
        have g : Grow Hx (.row i 3 0 (natD a :: natD b :: A).length) 3 (natD a :: natD b :: A) := .inr ⟨i, hi, rfl, hgi, by simp⟩
        have h2 := fz_two (n := 2) (v := .bool true) (g.fz (kp.out _))
        simp only [List.length_cons, hAl] at h2
        rw [h2, arcsD, frD, if_neg (by simp), ← hA]
        simp
      simp only [natD] at hgi
      by_cases h1 : 2 < (a : Int)
      · have hrn : r = none := by rw [hdef]; simp; omega
        rw [hnn hrn]
        clear hdef hnn
        refine W2 ?_
        simp [*]
        rfl
      · by_cases h2 : (a : Int) < 2
        · by_cases h3 : 40 ≤ (b : Int)
          · have hrn : r = none := by rw [hdef]; simp; omega
            rw [hnn hrn]
            clear hdef hnn
            refine W2 ?_
            simp [*]
            rfl
          · have hrs : r = some (a :: b :: List.map digVal ps) := by rw [hdef, if_pos]; simp; omega
            clear hdef hnn
            refine W2 ?_
            simp [*]
            try exact fin hrs
        · have hrs : r = some (a :: b :: List.map digVal ps) := by rw [hdef, if_pos]; simp; omega
          clear hdef hnn
          refine W2 ?_
          simp [*]
          try exact fin hrs
set_option maxRecDepth 100000 in
theorem arcs_spec (l : By) (hl : l.length ≤ 100000) (H : Heap) : PCalls Tryz.prog 184 [sD l] H fun d H' => d = arcsD (arcsM l) ∧ H' = H :=
  PCalls.liftG (PCalls.frozen (arcs_local l hl)) (fun d hd => by
    simp only [List.mem_cons, List.mem_nil_iff, or_false] at hd
    subst hd; exact .val _) (pure_arcs _) H
set_option maxHeartbeats 4000000 in
set_option maxRecDepth 100000 in
theorem Numeric_spec (l : By) (hl : l.length ≤ 100000) (H : Heap) : PCalls Tryz.prog 181 [sD l] H fun d H' => d = .val (.bool (arcsM l).isSome) ∧ H' = H := by
  refine PCalls.of_pwp Tryz.call181 Tryz.func181 rfl (by simp [Tryz.ntmps181]) ?_
  rw [Tryz.ntmps181]
  have hA := arcs_spec l hl
  rcases hr : arcsM l with _ | L
  · rw [hr] at hA
    simp only [arcsD] at hA
    refine W2 ?_
    refine PCalls.mono (hA _) ?_
    intro d3 H3 hd3
    rw [hd3.1, hd3.2]
    clear hd3
    try simp [*]
    refine W2 ?_
    simp [*]
  · rw [hr] at hA
    simp only [arcsD] at hA
    refine W2 ?_
    refine PCalls.mono (hA _) ?_
    intro d3 H3 hd3
    rw [hd3.1, hd3.2]
    clear hd3
    try simp [*]
    refine W2 ?_
    simp [*]
end Go.Pv
-- ZpvTameA ZpvDrawT
namespace Go.Pv
open Go.Proofs
attribute [-simp] eLen UInt8.ofNat_add

/-! ### Small letters -/
def mixed (l : By) (k : Nat) : By := (l.take k).map lowB ++ l.drop k
theorem mixed_length (l : By) (k : Nat) : (mixed l k).length = l.length := by simp [mixed]; omega
theorem mixed_get (l : By) (k : Nat) (c : UInt8) (h : l[k]? = some c) : (mixed l k)[k]? = some c := by
  have hk := (List.getElem?_eq_some_iff.1 h).1
  have : ((l.take k).map lowB).length = k := by simp; omega
  rw [mixed, List.getElem?_append_right (by omega), this]; simp [h]
theorem mixed_succ (l : By) (k : Nat) (c : UInt8) (h : l[k]? = some c) : mixed l (k + 1) = (mixed l k).set k (lowB c) := by
  have hk := (List.getElem?_eq_some_iff.1 h).1
  have h1 : ((l.take k).map lowB).length = k := by simp; omega
  have hc : l[k] = c := by rw [List.getElem?_eq_getElem hk] at h; exact Option.some.inj h
  rw [mixed, mixed, List.set_append_right _ _ (by omega), h1, Nat.sub_self, List.drop_eq_getElem_cons hk, List.set_cons_zero, List.take_succ_eq_append_getElem hk, List.map_append, List.append_assoc, hc]
  rfl
theorem mixed_zero (l : By) : mixed l 0 = l := by simp [mixed]
theorem mixed_all (l : By) : mixed l l.length = l.map lowB := by simp [mixed]
theorem lowB_up (c : UInt8) (h1 : 65 ≤ (c.toNat : Int)) (h2 : (c.toNat : Int) ≤ 90) : D.val (.int .u8 (IntKind.u8.wrap ((c.toNat : Int) + 32))) = byD (lowB c) := by
  have e1 : 65 ≤ c := UInt8.le_iff_toNat_le.2 (by simpa using (by omega : 65 ≤ c.toNat))
  have e2 : c ≤ 90 := UInt8.le_iff_toNat_le.2 (by simpa using (by omega : c.toNat ≤ 90))
  have e3 : (c + 32).toNat = c.toNat + 32 := by simp [UInt8.toNat_add]; omega
  rw [wrapB _ (by omega) (by omega), lowB, if_pos ⟨e1, e2⟩, byD, e3]; rfl
theorem lowB_keep (c : UInt8) (h : ¬ (65 ≤ (c.toNat : Int) ∧ (c.toNat : Int) ≤ 90)) : lowB c = c := by
  unfold lowB
  rw [if_neg]
  rintro ⟨e1, e2⟩
  have := UInt8.le_iff_toNat_le.1 e1
  have := UInt8.le_iff_toNat_le.1 e2
  simp at *
  omega
theorem set_same {α : Type} (l : List α) (k : Nat) (x : α) (h : l[k]? = some x) : l.set k x = l := by
  apply List.ext_getElem?
  intro i
  rw [List.getElem?_set]
  split
  · rename_i e; subst e
    split
    · exact h.symm
    · rename_i h2; exact absurd (List.getElem?_eq_some_iff.1 h).1 h2
  · rfl
/-- A row of bytes that is turned byte by byte. -/
def LowAt (l : By) (k : Nat) (H : Heap) : Prop := H.get 0 = some (.row 5 ((mixed l k).map byD))
set_option maxHeartbeats 4000000 in
set_option maxRecDepth 100000 in
theorem Lower_local (l : By) (hl : l.length ≤ 100000) : PCalls Tryz.prog 24 [sD l] (noHeap noG) fun d _ => d = sD (lowL l) := by
  refine PCalls.of_pwp Tryz.call24 Tryz.func24 rfl (by simp [Tryz.ntmps24]) ?_
  rw [Tryz.ntmps24]
  have hmx : (l.length : Int) ≤ 9223372036854775807 := by omega
  have hmn : l.length ≤ maxLen := by have : maxLen = 9223372036854775807 := rfl; omega
  refine W2 ?_
  refine pwp_for (l.length) (fun k st => st.env.n = 29 ∧ st.df = [] ∧ st.env.get 3 = .row 0 5 0 l.length ∧ st.env.get 8 = .row 0 5 0 l.length ∧ st.env.get 9 = .val (.int .i64 (l.length : Nat)) ∧ st.env.get 10 = .val (.int .i64 (k : Nat)) ∧ (LowAt l k st.H)) ⟨by first | (simp; done) | (simp [*]; done), rfl, by first | (simp; done) | (simp [*]; done), by first | (simp; done) | (simp [*]; done), by first | (simp; done) | (simp [*]; done), by first | (simp; done) | (simp [*]; done), ?_⟩ ?_ ?_
  · unfold LowAt; rw [mixed_zero]; simp
  · rintro k ⟨E, Hx, df⟩ hk ⟨en, edf, e3, e8, e9, e10, eP⟩
    simp only at en edf e3 e8 e9 e10
    subst edf
    have hki : (k : Int) < ((l.length : Nat) : Int) := by omega
    have hkw := wrapSucc k (by omega)
    unfold LowAt at eP
    simp only at eP
    obtain ⟨c, hc⟩ : ∃ c, l[k]? = some c := ⟨_, List.getElem?_eq_getElem hk⟩
    have hg := mixed_get l k c hc
    have hsc := mixed_succ l k c hc
    have hml := mixed_length l k
    obtain ⟨M, hM⟩ : ∃ M, (mixed l k).map byD = M := ⟨_, rfl⟩
    have hMk : M[k]? = some (byD c) := by rw [← hM, List.getElem?_map, hg]; rfl
    have hMl : M.length = l.length := by rw [← hM]; simpa using hml
    have hset : M.set k (byD (lowB c)) = (mixed l (k + 1)).map byD := by rw [← hM, hsc, List.map_set]
    have hMg := get_of hMk
    rw [hM] at eP
    simp only [byD] at hMk hMg
    by_cases h1 : 65 ≤ (c.toNat : Int)
    · by_cases h2 : (c.toNat : Int) ≤ 90
      · have hup := lowB_up c h1 h2
        clear hM hsc hg
        refine W2 ?_
        simp [*]
        unfold LowAt
        simp [*]
      · have hkp := lowB_keep c (fun h => h2 h.2)
        have hs2 : (mixed l (k + 1)).map byD = M := by rw [← hset, hkp]; exact set_same M k (byD c) hMk
        clear hM hsc hg hset
        refine W2 ?_
        simp [*]
        unfold LowAt
        rw [hs2]; exact eP
    · have hkp := lowB_keep c (fun h => h1 h.1)
      have hs2 : (mixed l (k + 1)).map byD = M := by rw [← hset, hkp]; exact set_same M k (byD c) hMk
      clear hM hsc hg hset
      refine W2 ?_
      simp [*]
      unfold LowAt
      rw [hs2]; exact eP
  · rintro ⟨E, Hx, df⟩ ⟨en, edf, e3, e8, e9, e10, eP⟩
    simp only at en edf e3 e8 e9 e10
    subst edf
    unfold LowAt at eP
    rw [mixed_all] at eP
    simp only at eP
    have hts := eToStr_by (l.map lowB)
    have hll : ((l.map lowB).map byD).length = l.length := by simp
    have htk : ((l.map lowB).map byD).take l.length = (l.map lowB).map byD := List.take_of_length_le (by omega)
    obtain ⟨M, hM⟩ : ∃ M, (l.map lowB).map byD = M := ⟨_, rfl⟩
    rw [hM] at eP hts hll htk
    clear hM
    refine W2 ?_
    simp [*, lowL]
set_option maxRecDepth 100000 in
theorem Lower_spec (l : By) (hl : l.length ≤ 100000) (H : Heap) : PCalls Tryz.prog 24 [sD l] H fun d H' => d = sD (lowL l) ∧ H' = H :=
  PCalls.alone (vs := [.string ⟨l.toArray⟩]) (Lower_local l hl) H
end Go.Pv
-- ZpvTameA ZpvDrawT
namespace Go.Pv
open Go.Proofs
attribute [-simp] eLen UInt8.ofNat_add


/-! ### Classes by their names -/
def clD (k : Nat) : D := .agg [sD (nm k), sD (od k), sD (sp k), .val (.int .i64 (kd k)), listD 9 (mu k), listD 9 (ma k)]
@[simp] theorem cells_cl (k : Nat) : cellsD (clD k) = [sD (nm k), sD (od k), sD (sp k), .val (.int .i64 (kd k)), listD 9 (mu k), listD 9 (ma k)] := rfl
theorem classes_run : runFz Tryz.prog 100 183 [] = some (.slice 0 207 ((List.range 10).map clD)) := by kernel_rfl
set_option maxRecDepth 100000 in
theorem Classes_spec (H : Heap) : PCalls Tryz.prog 183 [] H fun d H' => d = .slice 0 207 ((List.range 10).map clD) ∧ H' = H :=
  PCalls.liftG (runFz_spec mixedO classes_run) (fun d hd => by cases hd) (pure_of 20 _ (by kernel_rfl)) H
@[simp] theorem zd_cl : zeroD Tryz.prog 207 = some (cellsD (clD 10)) := by kernel_rfl
@[simp] theorem ze_cl : zeroElem Tryz.prog 207 = some (clD 10) := by kernel_rfl
theorem pure_cl (k : Nat) : Pure (clD k) := .agg _ fun d hd => by
  simp only [List.mem_cons, List.mem_nil_iff, or_false] at hd
  rcases hd with rfl | rfl | rfl | rfl | rfl | rfl
  · exact .val _
  · exact .val _
  · exact .val _
  · exact .val _
  · exact pure_list _ _
  · exact pure_list _ _
attribute [local simp] Heap.new_ne Heap.put_ne fillD
set_option maxHeartbeats 4000000 in
set_option maxRecDepth 100000 in
theorem FindClass_local (s : By) (hs : s.length ≤ 100000) : PCalls Tryz.prog 180 [sD s] (noHeap noG) fun d _ => d = .tup [clD (fcls s), .val (.bool (decide (fcls s < 10)))] := by
  refine PCalls.of_pwp Tryz.call180 Tryz.func180 rfl (by simp [Tryz.ntmps180]) ?_
  rw [Tryz.ntmps180]
  refine W2 ?_
  refine PCalls.mono (Lower_spec s hs _) ?_
  intro d3 H3 hd3
  rw [hd3.1, hd3.2]
  clear hd3
  try simp [*]
  refine W2 ?_
  refine PCalls.mono (Classes_spec _) ?_
  intro d3 H3 hd3
  rw [hd3.1, hd3.2]
  clear hd3
  try simp [*]
  refine W2 ?_
  refine pwp_loop (fun m st => ∃ k, k ≤ 10 ∧ m = 10 - k ∧ st.env.n = 29 ∧ st.df = [] ∧ st.env.get 0 = sD s ∧ st.env.get 2 = .ptr 0 0 ∧ st.env.get 4 = sD (lowL s) ∧ st.env.get 9 = .slice 0 207 ((List.range 10).map clD) ∧
    st.env.get 10 = .val (.int .i64 10) ∧ st.env.get 11 = .val (.int .i64 k) ∧ 0 < st.H.nx ∧ st.H.get 0 = some (.cells (cellsD (clD 10))) ∧ ∀ j, j < k → hit s j = false) 10 ?_ ?_
  · refine ⟨0, by omega, by omega, by simp, rfl, by simp, by simp, by simp, by simp, by simp, by simp, Nat.zero_lt_succ _, Heap.new_same _ _, fun j hj => by omega⟩
  · rintro m ⟨E, H, df⟩ ⟨k, hk, rfl, en, edf, e0, e2, e4, e9, e10, e11, eN, eH, eP⟩
    simp only at en edf e0 e2 e4 e9 e10 e11 eN eH
    subst edf
    by_cases h : k < 10
    · have hki : (k : Int) < 10 := by omega
      have hL : ((List.range 10).map clD)[k]? = some (clD k) := by rw [List.getElem?_map, List.getElem?_range h]; rfl
      have hLl : ((List.range 10).map clD).length = 10 := by simp
      have hge := get_of hL
      have hns := nm_small k
      generalize (List.range 10).map clD = L at *
      have hn0 : (0 : Nat) ≠ H.nx := by omega
      have hw := wrapSucc k (by omega)
      by_cases h1 : lowL s = lowL (nm k)
      · refine W2 ?_
        refine PCalls.mono (Lower_spec (nm k) hns _) ?_
        intro d3 H3 hd3
        rw [hd3.1, hd3.2]
        clear hd3
        try simp [*]
        try simp [*]
        refine W2 ?_
        have hf : fcls s = k := fcls_of h (by simp [hit, h1]) eP
        rw [hf]
        simp [*]
        try rfl
      · by_cases h2 : s = od k
        · subst h2
          refine W2 ?_
          refine PCalls.mono (Lower_spec (nm k) hns _) ?_
          intro d3 H3 hd3
          rw [hd3.1, hd3.2]
          clear hd3
          try simp [*]
          try simp [*]
          refine W2 ?_
          have hf : fcls (od k) = k := fcls_of h (by simp [hit]) eP
          rw [hf]
          simp [*]
          try rfl
        · refine W2 ?_
          refine PCalls.mono (Lower_spec (nm k) hns _) ?_
          intro d3 H3 hd3
          rw [hd3.1, hd3.2]
          clear hd3
          try simp [*]
          try simp [*]
          refine W2 ?_
          refine ⟨10 - (k + 1), by omega, k + 1, by omega, rfl, ?_⟩
          simp [*]
          intro j hj
          rcases Nat.lt_or_ge j k with q | q
          · exact eP j q
          · have : j = k := by omega
            subst this
            simp [hit, h1, h2]
    · have hks : k = 10 := by omega
      subst hks
      refine W2 ?_
      rw [fcls_none eP]
      simp [*]
      try rfl
set_option maxRecDepth 100000 in
theorem FindClass_spec (s : By) (hs : s.length ≤ 100000) (H : Heap) : PCalls Tryz.prog 180 [sD s] H fun d H' => d = .tup [clD (fcls s), .val (.bool (decide (fcls s < 10)))] ∧ H' = H :=
  PCalls.liftG (FindClass_local s hs) (fun d hd => by simp only [List.mem_cons, List.mem_nil_iff, or_false] at hd; subst hd; exact .val _)
    (.tup _ fun d hd => by simp only [List.mem_cons, List.mem_nil_iff, or_false] at hd; rcases hd with rfl | rfl; exact pure_cl _; exact .val _) H
end Go.Pv
-- ZpvTameA ZpvDrawT
namespace Go.Pv
open Go.Proofs
attribute [-simp] eLen UInt8.ofNat_add

/-! ### Numbers of sixteen digits -/
set_option maxRecDepth 100000 in
theorem fdigit_spec (c : UInt8) (H : Heap) : PCalls Tryz.prog 175 [.val (.int .u8 (c.toNat : Nat))] H fun d H' => d = .tup [.val (.int .u64 (((hexM c).getD 0 : Nat) : Int)), .val (.bool (hexM c).isSome)] ∧ H' = H := by
  have key : ((List.range 256).all fun n => match runFz Tryz.prog 60 175 [.val (.int .u8 (n : Nat))] with | some (.tup [.val (.int .u64 a), .val (.bool b)]) => decide (a = (((hexM (UInt8.ofNat n)).getD 0 : Nat) : Int)) && (b == (hexM (UInt8.ofNat n)).isSome) | _ => false) = true := by kernel_rfl
  have hc := List.all_eq_true.1 key c.toNat (List.mem_range.2 c.toNat_lt)
  split at hc
  · rename_i a b e
    have hg : UInt8.ofNat c.toNat = c := by simp
    rw [hg] at hc
    simp only [Bool.and_eq_true, decide_eq_true_eq, beq_iff_eq] at hc
    rw [hc.1, hc.2] at e
    exact PCalls.liftG (runFz_spec mixedO e) (fun d hd => by simp at hd; subst hd; exact .val _) (.tup _ fun d hd => by simp at hd; rcases hd with rfl | rfl <;> exact .val _) H
  · cases hc
set_option maxRecDepth 100000 in
theorem frombits_spec (n : Nat) (H : Heap) : PCalls Tryz.prog 60 [.val (.int .u64 (n : Nat))] H fun d H' => d = .val (.float .f64 n) ∧ H' = H :=
  (prOf_sound (x := (60, .frombits)) ⟨_, Tryz.func60, by kernel_rfl, by kernel_rfl, by kernel_rfl, by kernel_rfl⟩ rfl).mono fun d H' h => ⟨by rw [h.1]; simp, h.2⟩
set_option maxRecDepth 100000 in
theorem fbits_spec (n : Nat) (H : Heap) : PCalls Tryz.prog 89 [.val (.float .f64 n)] H fun d H' => d = .val (.int .u64 (n : Nat)) ∧ H' = H :=
  (prOf_sound (x := (89, .bits)) ⟨_, Tryz.func89, by kernel_rfl, by kernel_rfl, by kernel_rfl, by kernel_rfl⟩ rfl).mono fun d H' h => ⟨h.1, h.2⟩
def fltD (o : Option Nat) : D := .tup [.val (.float .f64 (o.getD 0)), .val (.bool o.isSome)]
theorem hexAll_succ (l : By) (k : Nat) (c : UInt8) (h : l[k]? = some c) : hexAll (l.take (k + 1)) = (hexAll (l.take k) && (hexM c).isSome) := by
  unfold hexAll; rw [List.take_add_one, h]; simp
theorem hexAll_not (l : By) (k : Nat) (c : UInt8) (h : l[k]? = some c) (hp : hexM c = none) : hexAll l = false := by
  cases hq : hexAll l with
  | false => rfl
  | true => have := List.all_eq_true.1 hq c (List.mem_of_getElem? h); rw [hp] at this; cases this
set_option maxHeartbeats 4000000 in
set_option maxRecDepth 100000 in
theorem fParse_spec (l : By) (H : Heap) : PCalls Tryz.prog 173 [sD l] H fun d H' => d = fltD (parseM l) ∧ H' = H := by
  refine PCalls.of_pwp Tryz.call173 Tryz.func173 rfl (by simp [Tryz.ntmps173]) ?_
  rw [Tryz.ntmps173]
  by_cases h16 : l.length = 16
  · have h16i : (l.length : Int) = 16 := by omega
    refine W2 ?_
    refine pwp_for (16) (fun k st => st.env.n = 30 ∧ st.df = [] ∧ st.H = H ∧ st.env.get 0 = sD l ∧ st.env.get 4 = .val (.int .u64 ((hexV (l.take k) : Nat) : Int)) ∧ st.env.get 11 = .val (.int .i64 k) ∧ (Hold (hexAll (l.take k) = true))) ⟨by first | (simp; done) | (simp [*]; done), rfl, by first | rfl | simp, by first | (simp; done) | (simp [*]; done), by first | (simp; done) | (simp [*]; done), by first | (simp; done) | (simp [*]; done), by first | done | exact ⟨by simp⟩ | simp⟩ ?_ ?_
    · rintro k ⟨E, Hx, df⟩ hk ⟨en, edf, eH, e0, e4, e11, eP⟩
      simp only at en edf eH e0 e4 e11
      subst edf; replace eH := eH.symm; subst eH
      have hki : (k : Int) < ((16 : Nat) : Int) := by omega
      have hkw := wrapSucc k (by omega)
      obtain ⟨c, hc⟩ : ∃ c, l[k]? = some c := ⟨_, List.getElem?_eq_getElem (by omega)⟩
      have bc : byteAt l k = (c.toNat : Int) := byteAt_of hc
      have lc := toNat_lt c
      have hs := hexAll_succ l k c hc
      rw [eP.out, Bool.true_and] at hs
      have hv := hexV_take l k c hc
      have hlt := hexV_lt (l.take k)
      have hl15 : (l.take k).length ≤ 15 := by simp; omega
      have hlt2 : hexV (l.take k) < 16 ^ 15 := Nat.lt_of_lt_of_le hlt (Nat.pow_le_pow_right (by decide) hl15)
      obtain ⟨v, hve⟩ : ∃ v, hexV (l.take k) = v := ⟨_, rfl⟩
      rw [hve] at hv hlt2 e4
      have k1 : (k : Int) < 16 := by omega
      have k2 : (k : Int) < (l.length : Int) := by omega
      have hkl : k < l.length := by omega
      cases hd : hexM c with
      | none =>
        have hp : parseM l = none := by rw [parseM, if_neg]; rw [hexAll_not l k c hc hd]; simp
        clear hs hve
        refine W2 ?_
        refine PCalls.mono (fdigit_spec c _) ?_
        intro d3 H3 hd3
        rw [hd3.1, hd3.2]
        clear hd3
        try simp [*]
        try simp [*]
        refine W2 ?_
        simp [*, fltD]
      | some n =>
        have hn := hexM_lt hd
        rw [hd] at hs hv
        simp only [Option.getD_some, Option.isSome_some] at hs hv
        have hor := nib_or v n (by omega) hn
        have hs' := Hold.mk hs
        clear hs hve
        refine W2 ?_
        refine PCalls.mono (fdigit_spec c _) ?_
        intro d3 H3 hd3
        rw [hd3.1, hd3.2]
        clear hd3
        try simp [*]
        try simp [*]
        refine W2 ?_
        simp [*]
        first
        | done
        | exact ⟨by simpa using hs'.out⟩
    · rintro ⟨E, Hx, df⟩ ⟨en, edf, eH, e0, e4, e11, eP⟩
      simp only at en edf eH e0 e4 e11
      subst edf; replace eH := eH.symm; subst eH
      have h5 := eP.out
      have ht : l.take 16 = l := List.take_of_length_le (by omega)
      rw [ht] at h5 e4
      have hp : parseM l = some (hexV l) := by rw [parseM, if_pos ⟨h16, h5⟩]
      clear h5 ht eP
      refine W2 ?_
      refine PCalls.mono (frombits_spec (hexV l) _) ?_
      intro d3 H3 hd3
      rw [hd3.1, hd3.2]
      clear hd3
      try simp [*]
      refine W2 ?_
      simp [*, fltD]
  · have h16i : ¬ (l.length : Int) = 16 := by omega
    have hp : parseM l = none := by rw [parseM, if_neg]; simp [h16]
    refine W2 ?_
    simp [*, fltD]
end Go.Pv
-- ZpvTameA ZpvDrawT
namespace Go.Pv
open Go.Proofs
attribute [-simp] eLen UInt8.ofNat_add

/-! ### Floats by their bits -/
def nanB (x : Nat) : Bool := !Op.floatEq .f64 x x
def plainF (x : Nat) : Nat := if nanB x then 9221120237041090560 else if Op.floatEq .f64 x 0 then 0 else x
set_option maxHeartbeats 4000000 in
set_option maxRecDepth 100000 in
theorem IsNaN_spec (x : Nat) (H : Heap) : PCalls Tryz.prog 177 [.val (.float .f64 x)] H fun d H' => d = .val (.bool (nanB x)) ∧ H' = H := by
  refine PCalls.of_pwp Tryz.call177 Tryz.func177 rfl (by simp [Tryz.ntmps177]) ?_
  rw [Tryz.ntmps177]
  refine W2 ?_
  simp [*, nanB]
set_option maxHeartbeats 4000000 in
set_option maxRecDepth 100000 in
theorem fPlain_spec (x : Nat) (H : Heap) : PCalls Tryz.prog 176 [.val (.float .f64 x)] H fun d H' => d = .val (.float .f64 (plainF x)) ∧ H' = H := by
  refine PCalls.of_pwp Tryz.call176 Tryz.func176 rfl (by simp [Tryz.ntmps176]) ?_
  rw [Tryz.ntmps176]
  refine W2 ?_
  refine PCalls.mono (IsNaN_spec x _) ?_
  intro d3 H3 hd3
  rw [hd3.1, hd3.2]
  clear hd3
  try simp [*]
  cases hn : nanB x with
  | true =>
    have hp : plainF x = 9221120237041090560 := by rw [plainF, hn]; rfl
    try simp [*]
    refine W2 ?_
    refine PCalls.mono (frombits_spec 9221120237041090560 _) ?_
    intro d3 H3 hd3
    rw [hd3.1, hd3.2]
    clear hd3
    try simp [*]
    try simp [*]
    refine W2 ?_
    simp [*]
  | false =>
    cases hz : Op.floatEq .f64 x 0 with
    | true =>
      have hp : plainF x = 0 := by rw [plainF, hn, hz]; rfl
      try simp [*]
      refine W2 ?_
      simp [*]
    | false =>
      have hp : plainF x = x := by rw [plainF, hn, hz]; rfl
      try simp [*]
      refine W2 ?_
      simp [*]
set_option maxHeartbeats 4000000 in
def gtF (x y : Nat) : Bool := FloatKind.f64.format.order x y == some .gt
def ltF (x y : Nat) : Bool := FloatKind.f64.format.order x y == some .lt
def orderF (x y : Nat) : Int :=
  if nanB x && nanB y then 0 else if nanB x then 1 else if nanB y then -1 else if gtF x y then 1 else if ltF x y then -1 else 0
theorem lt_gt (x y : Nat) (h : ltF x y = true) : gtF x y = false := by
  simp only [ltF, gtF, beq_iff_eq] at *
  rw [h]; rfl
set_option maxHeartbeats 4000000 in
def hexT : By := [48, 49, 50, 51, 52, 53, 54, 55, 56, 57, 97, 98, 99, 100, 101, 102, 65, 66, 67, 68, 69, 70]
def nibF (n k : Nat) : UInt8 := hexT.getD (n / 16 ^ (15 - k) % 16) 0
def textF (n : Nat) : By := (List.range 16).map (nibF n)
theorem shr_nib (n k : Nat) (hk : k < 16) : (n : Int).fdiv (2 ^ min (60 - 4 * (k : Int)).toNat IntKind.u64.bits) = ((n / 16 ^ (15 - k) : Nat) : Int) := by
  have e1 : (60 - 4 * (k : Int)).toNat = 4 * (15 - k) := by omega
  have e2 : min (4 * (15 - k)) IntKind.u64.bits = 4 * (15 - k) := by rw [show IntKind.u64.bits = 64 from rfl]; omega
  have e3 : (2 : Int) ^ (4 * (15 - k)) = ((16 ^ (15 - k) : Nat) : Int) := by rw [Int.pow_mul]; norm_cast
  rw [e1, e2, e3, Int.fdiv_eq_ediv_of_nonneg _ (Int.natCast_nonneg _)]
  norm_cast
theorem and15 (q : Nat) : IntKind.u64.wrap ((q % 2 ^ IntKind.u64.bits &&& 15 % 2 ^ IntKind.u64.bits : Nat) : Int) = ((q % 16 : Nat) : Int) := by
  have e1 : (2 : Nat) ^ IntKind.u64.bits = 18446744073709551616 := rfl
  rw [e1]
  have h : ∀ m : Nat, m &&& (15 % 18446744073709551616) = m % 16 := fun m => by
    have := Nat.and_two_pow_sub_one_eq_mod m 4
    simpa using this
  rw [h, wrapU _ (by omega) (by omega)]
  congr 1
  omega
theorem nib_at (n k : Nat) : byteAt [48, 49, 50, 51, 52, 53, 54, 55, 56, 57, 97, 98, 99, 100, 101, 102] (n / 16 ^ (15 - k) % 16) = ((nibF n k).toNat : Int) := by
  have key : ∀ m : Nat, m < 16 → byteAt [48, 49, 50, 51, 52, 53, 54, 55, 56, 57, 97, 98, 99, 100, 101, 102] m = ((hexT.getD m 0).toNat : Int) := by decide +kernel
  exact key _ (Nat.mod_lt _ (by decide))
theorem nib_sl (n k m : Nat) (hm : n / 16 ^ (15 - k) % 16 = m) : (([48, 49, 50, 51, 52, 53, 54, 55, 56, 57, 97, 98, 99, 100, 101, 102] : By).take (m + 1)).drop m = [nibF n k] := by
  have key : ∀ m : Nat, m < 16 → (([48, 49, 50, 51, 52, 53, 54, 55, 56, 57, 97, 98, 99, 100, 101, 102] : By).take (m + 1)).drop m = [hexT.getD m 0] := by decide +kernel
  rw [← hm]
  exact key _ (Nat.mod_lt _ (by decide))
end Go.Pv
-- ZpvTameA ZpvDrawT
namespace Go.Pv
open Go.Proofs
attribute [-simp] eLen UInt8.ofNat_add

/-! ### strings.ReplaceAll by one sign; digits with blanks; a number's text -/
set_option maxRecDepth 100000 in
theorem ReplaceDel_spec (l : By) (c : UInt8) (hl : l.length ≤ 100000) (H : Heap) (hG : MaxIs H 0) : PCalls Tryz.prog 162 [sD l, sD [c], sD []] H fun d H' => d = sD (delB c l) ∧ H' = H := by
  have h := PCalls.lib (P := Tryz.prog) (f := 162) (vs := [.string ⟨l.toArray⟩, .string ⟨[c].toArray⟩, .string ⟨([] : By).toArray⟩]) (v := .string ⟨(delB c l).toArray⟩) (fun args w => Tryz.call162 args w) hG fun m w hm => by
    have := Tryz.strings_ReplaceAll ⟨l.toArray⟩ ⟨[c].toArray⟩ ⟨([] : By).toArray⟩ m w (by show l.toArray.size < _; simp; omega) hm (by show 1 ≤ [c].toArray.size; simp) (by
      have : (⟨([] : By).toArray⟩ : ByteArray).size = 0 := rfl
      rw [this, Nat.mul_zero, Nat.add_zero]
      show l.toArray.size ≤ _; simp; omega)
    rw [show (⟨l.toArray⟩ : ByteArray).data.toList = l from by simp, show (⟨[c].toArray⟩ : ByteArray).data.toList = [c] from rfl, show (⟨([] : By).toArray⟩ : ByteArray).data.toList = [] from rfl, replaceAll_del] at this
    exact this
  exact h
def numericM (l : By) : Option By := if digsB (delB 32 l) = true then some (delB 32 l) else none
def optD (o : Option By) : D := .tup [sD (o.getD []), .val (.bool o.isSome)]
theorem delB_len (c : UInt8) (l : By) : (delB c l).length ≤ l.length := List.length_filter_le _ _
set_option maxHeartbeats 4000000 in
set_option maxRecDepth 100000 in
theorem fNumeric_spec (l : By) (hl : l.length ≤ 100000) (H : Heap) (hG : MaxIs H 0) : PCalls Tryz.prog 161 [sD l] H fun d H' => d = optD (numericM l) ∧ H' = H := by
  refine PCalls.of_pwp Tryz.call161 Tryz.func161 rfl (by simp [Tryz.ntmps161]) ?_
  rw [Tryz.ntmps161]
  refine W2 ?_
  refine PCalls.mono (ReplaceDel_spec l 32 hl _ hG) ?_
  intro d3 H3 hd3
  rw [hd3.1, hd3.2]
  clear hd3
  try simp [*]
  have hdl := delB_len 32 l
  have hnm : numericM l = if digsB (delB 32 l) = true then some (delB 32 l) else none := rfl
  obtain ⟨r, hr⟩ : ∃ r, delB 32 l = r := ⟨_, rfl⟩
  rw [hr] at hdl hnm ⊢
  clear hr
  refine W2 ?_
  refine pwp_for (r.length) (fun k st => st.env.n = 27 ∧ st.df = [] ∧ st.H = H ∧ st.env.get 4 = sD r ∧ st.env.get 9 = .val (.int .i64 r.length) ∧ st.env.get 10 = .val (.int .i64 k) ∧ ((r.take k).all isDig = true)) ⟨by first | (simp; done) | (simp [*]; done), rfl, by first | rfl | simp, by first | (simp; done) | (simp [*]; done), by first | (simp; done) | (simp [*]; done), by first | (simp; done) | (simp [*]; done), by first | (simp; done) | (simp [*]; done)⟩ ?_ ?_
  · rintro k ⟨E, Hx, df⟩ hk ⟨en, edf, eH, e4, e9, e10, eP⟩
    simp only at en edf eH e4 e9 e10
    subst edf; replace eH := eH.symm; subst eH
    have hki : (k : Int) < ((r.length : Nat) : Int) := by omega
    have hkw := wrapSucc k (by omega)
    obtain ⟨c, hc⟩ : ∃ c, r[k]? = some c := ⟨_, List.getElem?_eq_getElem (by omega)⟩
    have bc : byteAt r k = (c.toNat : Int) := byteAt_of hc
    have lc := toNat_lt c
    have hs := all_take_succ isDig r k c hc
    rw [eP, Bool.true_and] at hs
    by_cases h4 : (c.toNat : Int) < 48
    · have h2 : isDig c = false := by simp [isDig]; omega
      have h5 : digsB r = false := by rw [digsB, all_not isDig r k c hc h2, Bool.and_false]
      rw [h5] at hnm
      have hnm2 : numericM l = none := hnm
      clear hnm hs
      refine W2 ?_
      simp [*, optD]
    · by_cases h6 : 57 < (c.toNat : Int)
      · have h2 : isDig c = false := by simp [isDig]; omega
        have h5 : digsB r = false := by rw [digsB, all_not isDig r k c hc h2, Bool.and_false]
        rw [h5] at hnm
        have hnm2 : numericM l = none := hnm
        clear hnm hs
        refine W2 ?_
        simp [*, optD]
      · have h2 : isDig c = true := by simp [isDig]; omega
        rw [h2] at hs
        clear hnm
        refine W2 ?_
        simp [*]
  · rintro ⟨E, Hx, df⟩ ⟨en, edf, eH, e4, e9, e10, eP⟩
    simp only at en edf eH e4 e9 e10
    subst edf; replace eH := eH.symm; subst eH
    rw [List.take_length] at eP
    rw [digsB, eP, Bool.and_true] at hnm
    rcases r with _ | ⟨a, r⟩
    · have hnm2 : numericM l = none := hnm
      clear hnm
      refine W2 ?_
      simp [*, optD]
    · have hnm2 : numericM l = some (a :: r) := hnm
      clear hnm eP
      refine W2 ?_
      simp [*, optD]
set_option maxHeartbeats 4000000 in
set_option maxRecDepth 100000 in
theorem fText_local (x : Nat) : PCalls Tryz.prog 174 [.val (.float .f64 x)] (noHeap noG) fun d H' => d = sD (textF (plainF x)) := by
  refine PCalls.of_pwp Tryz.call174 Tryz.func174 rfl (by simp [Tryz.ntmps174]) ?_
  rw [Tryz.ntmps174]
  refine W2 ?_
  refine PCalls.mono (fPlain_spec x _) ?_
  intro d3 H3 hd3
  rw [hd3.1, hd3.2]
  clear hd3
  try simp [*]
  refine W2 ?_
  refine PCalls.mono (fbits_spec (plainF x) _) ?_
  intro d3 H3 hd3
  rw [hd3.1, hd3.2]
  clear hd3
  try simp [*]
  obtain ⟨n, hn⟩ : ∃ n, plainF x = n := ⟨_, rfl⟩
  rw [hn]
  have hL : ∀ k, k < 16 → ((List.range 16).map fun k => byD (nibF n k))[k]? = some (byD (nibF n k)) := fun k hk => by rw [List.getElem?_map, List.getElem?_range hk]; rfl
  have hLl : ((List.range 16).map fun k => byD (nibF n k)).length = 16 := by simp
  have hLm : ((List.range 16).map fun k => byD (nibF n k)) = (textF n).map byD := by rw [textF, List.map_map]; rfl
  obtain ⟨L, hLe⟩ : ∃ L, ((List.range 16).map fun k => byD (nibF n k)) = L := ⟨_, rfl⟩
  rw [hLe] at hL hLl hLm
  clear hLe
  refine W2 ?_
  refine pwp_for (16) (fun k st => st.env.n = 24 ∧ st.df = [] ∧ st.env.get 3 = .val (.int .u64 (n : Nat)) ∧ st.env.get 4 = .ptr 0 0 ∧ st.env.get 9 = .val (.int .i64 k) ∧ (st.H.get 0 = some (.cells (fill L k (.val (.int .u8 0)))))) ⟨by first | (simp; done) | (simp [*]; done), rfl, by first | (simp; done) | (simp [*]; done), by first | (simp; done) | (simp [*]; done), by first | (simp; done) | (simp [*]; done), ?_⟩ ?_ ?_
  · rw [fill_zero, hLl]; simp
  · rintro k ⟨E, Hx, df⟩ hk ⟨en, edf, e3, e4, e9, eP⟩
    simp only at en edf e3 e4 e9
    subst edf
    have hki : (k : Int) < ((16 : Nat) : Int) := by omega
    have hkw := wrapSucc k (by omega)
    simp only at eP
    have k1 : (k : Int) < 16 := by omega
    have w1 := wrapI (4 * (k : Int)) (by omega) (by omega)
    have w2 := wrapI (60 - 4 * (k : Int)) (by omega) (by omega)
    have hs := shr_nib n k hk
    have ha := and15 (n / 16 ^ (15 - k))
    have hb := nib_at n k
    have k60 : 4 * (k : Int) ≤ 60 := by omega
    have k15 : k ≤ 15 := by omega
    have hset := fill_set L k (.val (.int .u8 0)) (byD (nibF n k)) (hL k hk)
    have hfl : (fill L k (.val (.int .u8 0))).length = 16 := by rw [fill_len _ _ _ (by omega)]; exact hLl
    have hfg := fill_get L k (.val (.int .u8 0)) (by omega)
    obtain ⟨F, hF⟩ : ∃ F, fill L k (.val (.int .u8 0)) = F := ⟨_, rfl⟩
    rw [hF] at eP hset hfl hfg
    have hfg2 := get_of hfg
    clear hF hLm hL hLl
    obtain ⟨q, hq⟩ : ∃ q, n / 16 ^ (15 - k) = q := ⟨_, rfl⟩
    rw [hq] at hs ha hb
    clear hq
    obtain ⟨m, hm⟩ : ∃ m, q % 16 = m := ⟨_, rfl⟩
    have hm16 : m < 16 := by omega
    have m1 : (m : Int) < 16 := by omega
    rw [hm] at ha hb
    clear hm
    simp only [byD] at hset
    refine W2 ?_
    simp [*]
  · rintro ⟨E, Hx, df⟩ ⟨en, edf, e3, e4, e9, eP⟩
    simp only at en edf e3 e4 e9
    subst edf
    have e16 : fill L 16 (.val (.int .u8 0)) = L := by rw [← hLl]; exact fill_all L _
    rw [e16, hLm] at eP
    have hts := eToStr_by (textF n)
    have hll : ((textF n).map byD).length = 16 := by simp [textF]
    have htk : ((textF n).map byD).take 16 = (textF n).map byD := List.take_of_length_le (by omega)
    obtain ⟨M, hM⟩ : ∃ M, (textF n).map byD = M := ⟨_, rfl⟩
    rw [hM] at eP hts hll htk
    clear hM hLm e16 hL
    have hmx : 16 ≤ maxLen := by decide
    refine W2 ?_
    simp [*]
set_option maxRecDepth 100000 in
theorem fText_spec (x : Nat) (H : Heap) : PCalls Tryz.prog 174 [.val (.float .f64 x)] H fun d H' => d = sD (textF (plainF x)) ∧ H' = H :=
  PCalls.alone (vs := [.float .f64 x]) (fText_local x) H
end Go.Pv
-- ZpvTameA ZpvDrawT
namespace Go.Pv
open Go.Proofs
attribute [-simp] eLen UInt8.ofNat_add



/-! ### What each syntax does with a value -/
def optK (k : By) (ok : Bool) : D := .tup [sD k, .val (.bool ok)]
theorem pure_optK (k : By) (ok : Bool) : Pure (optK k ok) := .tup _ fun d hd => by
  simp only [List.mem_cons, List.mem_nil_iff, or_false] at hd
  rcases hd with rfl | rfl <;> exact .val _
def recv : D := .agg []
theorem pure_recv (l : By) : ∀ d ∈ [recv, sD l], Pure d := fun d hd => by
  simp only [List.mem_cons, List.mem_nil_iff, or_false] at hd
  rcases hd with rfl | rfl
  · exact .agg _ fun d hd => by cases hd
  · exact .val _
attribute [local simp] recv optK
set_option maxHeartbeats 4000000 in
set_option maxRecDepth 100000 in
theorem wordsKey_spec (l : By) (hl : l.length ≤ 100000) (H : Heap) : PCalls Tryz.prog 124 [recv, sD l] H fun d H' => d = optK (prepM false true l) ((chars l).isSome && !(prepM false true l).isEmpty) ∧ H' = H := by
  refine PCalls.liftG ?_ (pure_recv l) (pure_optK _ _) H
  refine PCalls.of_pwp Tryz.call124 Tryz.func124 rfl (by simp [Tryz.ntmps124]) ?_
  rw [Tryz.ntmps124]
  refine W2 ?_
  refine PCalls.mono (Fold_spec l hl _) ?_
  intro d3 H3 hd3
  rw [hd3.1, hd3.2]
  clear hd3
  try simp [*]
  obtain ⟨r, hr⟩ : ∃ r, prepM false true l = r := ⟨_, rfl⟩
  rw [hr]
  refine W2 ?_
  refine PCalls.mono (Right_spec l hl _) ?_
  intro d3 H3 hd3
  rw [hd3.1, hd3.2]
  clear hd3
  try simp [*]
  cases hc : (chars l).isSome with
  | false =>
    try simp [*]
    refine W2 ?_
    simp [*]
  | true =>
    rcases r with _ | ⟨a, r⟩
    · try simp [*]
      refine W2 ?_
      simp [*]
    · try simp [*]
      refine W2 ?_
      simp [*]
set_option maxHeartbeats 4000000 in
set_option maxRecDepth 100000 in
theorem exactKey_spec (l : By) (hl : l.length ≤ 100000) (H : Heap) : PCalls Tryz.prog 131 [recv, sD l] H fun d H' => d = optK (prepM false false l) ((chars l).isSome && !(prepM false false l).isEmpty) ∧ H' = H := by
  refine PCalls.liftG ?_ (pure_recv l) (pure_optK _ _) H
  refine PCalls.of_pwp Tryz.call131 Tryz.func131 rfl (by simp [Tryz.ntmps131]) ?_
  rw [Tryz.ntmps131]
  refine W2 ?_
  refine PCalls.mono (Exact_spec l hl _) ?_
  intro d3 H3 hd3
  rw [hd3.1, hd3.2]
  clear hd3
  try simp [*]
  obtain ⟨r, hr⟩ : ∃ r, prepM false false l = r := ⟨_, rfl⟩
  rw [hr]
  refine W2 ?_
  refine PCalls.mono (Right_spec l hl _) ?_
  intro d3 H3 hd3
  rw [hd3.1, hd3.2]
  clear hd3
  try simp [*]
  cases hc : (chars l).isSome with
  | false =>
    try simp [*]
    refine W2 ?_
    simp [*]
  | true =>
    rcases r with _ | ⟨a, r⟩
    · try simp [*]
      refine W2 ?_
      simp [*]
    · try simp [*]
      refine W2 ?_
      simp [*]
set_option maxHeartbeats 4000000 in
set_option maxRecDepth 100000 in
theorem numberKey_spec (l : By) (hl : l.length ≤ 100000) (H : Heap) : PCalls Tryz.prog 134 [recv, sD l] H fun d H' => d = optK (plainM l) (sizedM l).isSome ∧ H' = H := by
  refine PCalls.liftG ?_ (pure_recv l) (pure_optK _ _) H
  refine PCalls.of_pwp Tryz.call134 Tryz.func134 rfl (by simp [Tryz.ntmps134]) ?_
  rw [Tryz.ntmps134]
  refine W2 ?_
  refine PCalls.mono (Plain_spec l hl _) ?_
  intro d3 H3 hd3
  rw [hd3.1, hd3.2]
  clear hd3
  try simp [*]
  refine W2 ?_
  refine PCalls.mono (Valid_spec l hl _) ?_
  intro d3 H3 hd3
  rw [hd3.1, hd3.2]
  clear hd3
  try simp [*]
  try simp [*]
  refine W2 ?_
  simp [*]
def yesB : By := [84, 82, 85, 69]
def noB : By := [70, 65, 76, 83, 69]
set_option maxHeartbeats 4000000 in
set_option maxRecDepth 100000 in
theorem truthKey_spec (l : By) (H : Heap) : PCalls Tryz.prog 156 [recv, sD l] H fun d H' => d = optK l (decide (l = yesB) || decide (l = noB)) ∧ H' = H := by
  refine PCalls.liftG ?_ (pure_recv l) (pure_optK _ _) H
  refine PCalls.of_pwp Tryz.call156 Tryz.func156 rfl (by simp [Tryz.ntmps156]) ?_
  rw [Tryz.ntmps156]
  by_cases h1 : l = yesB
  · subst h1
    refine W2 ?_
    simp [*, yesB]
    refine W2 ?_
    simp [*, yesB]
  · by_cases h2 : l = noB
    · subst h2
      refine W2 ?_
      simp [*, yesB, noB]
      refine W2 ?_
      simp [*, yesB, noB]
    · have h1' : ¬ l = [84, 82, 85, 69] := h1
      have h2' : ¬ l = [70, 65, 76, 83, 69] := h2
      refine W2 ?_
      simp [*, yesB, noB]
set_option maxHeartbeats 4000000 in
set_option maxRecDepth 100000 in
theorem octetsKey_spec (l : By) (H : Heap) : PCalls Tryz.prog 158 [recv, sD l] H fun d H' => d = optK l true ∧ H' = H := by
  refine PCalls.liftG ?_ (pure_recv l) (pure_optK _ _) H
  refine PCalls.of_pwp Tryz.call158 Tryz.func158 rfl (by simp [Tryz.ntmps158]) ?_
  rw [Tryz.ntmps158]
  refine W2 ?_
  simp [*]
set_option maxHeartbeats 4000000 in
set_option maxRecDepth 100000 in
theorem noneKey_spec (l : By) (H : Heap) : PCalls Tryz.prog 191 [recv, sD l] H fun d H' => d = optK [] false ∧ H' = H := by
  refine PCalls.liftG ?_ (pure_recv l) (pure_optK _ _) H
  refine PCalls.of_pwp Tryz.call191 Tryz.func191 rfl (by simp [Tryz.ntmps191]) ?_
  rw [Tryz.ntmps191]
  refine W2 ?_
  simp [*]
set_option maxHeartbeats 4000000 in
set_option maxRecDepth 100000 in
theorem digitsKey_spec (l : By) (hl : l.length ≤ 100000) (H : Heap) (hG : MaxIs H 0) : PCalls Tryz.prog 159 [recv, sD l] H fun d H' => d = optK ((numericM l).getD []) (numericM l).isSome ∧ H' = H := by
  refine PCalls.liftM (fun m => ?_) (pure_recv l) (pure_optK _ _) hG
  refine PCalls.of_pwp Tryz.call159 Tryz.func159 rfl (by simp [Tryz.ntmps159]) ?_
  rw [Tryz.ntmps159]
  refine W2 ?_
  refine PCalls.mono (fNumeric_spec l hl _ (maxG_is _ m rfl)) ?_
  intro d3 H3 hd3
  rw [hd3.1, hd3.2]
  clear hd3
  try simp [*]
  simp only [optD]
  try simp [*]
  refine W2 ?_
  simp [*]
def pointM (l : By) : By := textF (plainF ((parseM l).getD 0))
set_option maxHeartbeats 4000000 in
set_option maxRecDepth 100000 in
theorem pointKey_spec (l : By) (H : Heap) : PCalls Tryz.prog 171 [recv, sD l] H fun d H' => d = optK (pointM l) (parseM l).isSome ∧ H' = H := by
  refine PCalls.liftG ?_ (pure_recv l) (pure_optK _ _) H
  refine PCalls.of_pwp Tryz.call171 Tryz.func171 rfl (by simp [Tryz.ntmps171]) ?_
  rw [Tryz.ntmps171]
  refine W2 ?_
  refine PCalls.mono (fParse_spec l _) ?_
  intro d3 H3 hd3
  rw [hd3.1, hd3.2]
  clear hd3
  try simp [*]
  simp only [fltD]
  try simp [*]
  refine W2 ?_
  refine PCalls.mono (fText_spec _ _) ?_
  intro d3 H3 hd3
  rw [hd3.1, hd3.2]
  clear hd3
  try simp [*]
  try simp [*]
  refine W2 ?_
  simp [*, pointM]
@[simp] theorem okPart_cl (k : Nat) : okPart (clD k) = true := by unfold clD listD; split <;> split <;> rfl
def objectM (l : By) : By := if fcls l < 10 then lowL (nm (fcls l)) else lowL l
def objectOk (l : By) : Bool := decide (fcls l < 10) || ((arcsM l).isSome || wordB l)
set_option maxHeartbeats 4000000 in
set_option maxRecDepth 100000 in
theorem objectKey_spec (l : By) (hl : l.length ≤ 100000) (H : Heap) : PCalls Tryz.prog 178 [recv, sD l] H fun d H' => d = optK (objectM l) (objectOk l) ∧ H' = H := by
  refine PCalls.liftG ?_ (pure_recv l) (pure_optK _ _) H
  refine PCalls.of_pwp Tryz.call178 Tryz.func178 rfl (by simp [Tryz.ntmps178]) ?_
  rw [Tryz.ntmps178]
  refine W2 ?_
  refine PCalls.mono (FindClass_spec l hl _) ?_
  intro d3 H3 hd3
  rw [hd3.1, hd3.2]
  clear hd3
  try simp [*]
  have hns := nm_small (fcls l)
  by_cases h : fcls l < 10
  · try simp [*]
    refine W2 ?_
    refine PCalls.mono (Lower_spec (nm (fcls l)) hns _) ?_
    intro d3 H3 hd3
    rw [hd3.1, hd3.2]
    clear hd3
    try simp [*]
    try simp [*]
    refine W2 ?_
    simp [*, objectM, objectOk]
  · try simp [*]
    refine W2 ?_
    refine PCalls.mono (Lower_spec l hl _) ?_
    intro d3 H3 hd3
    rw [hd3.1, hd3.2]
    clear hd3
    try simp [*]
    try simp [*]
    refine W2 ?_
    refine PCalls.mono (Numeric_spec l hl _) ?_
    intro d3 H3 hd3
    rw [hd3.1, hd3.2]
    clear hd3
    try simp [*]
    cases ha : (arcsM l).isSome with
    | true =>
      try simp [*]
      refine W2 ?_
      simp [*, objectM, objectOk]
    | false =>
      try simp [*]
      refine W2 ?_
      refine PCalls.mono (Word_spec l hl _) ?_
      intro d3 H3 hd3
      rw [hd3.1, hd3.2]
      clear hd3
      try simp [*]
      try simp [*]
      refine W2 ?_
      simp [*, objectM, objectOk]
end Go.Pv
-- ZpvTameA ZpvDrawT
namespace Go.Pv
open Go.Proofs
attribute [-simp] eLen UInt8.ofNat_add



/-! ### What a value is held by -/
def ruleD (s : Int) : D :=
  if s = 1 then .ifc 138 recv else if s = 2 then .ifc 139 recv else if s = 3 then .ifc 140 recv else if s = 4 then .ifc 141 recv else if s = 5 then .ifc 142 recv
  else if s = 7 then .ifc 143 recv else if s = 8 then .ifc 144 recv else if s = 9 then .ifc 145 recv else .ifc 146 recv
def isRule (s : Int) : Bool := decide (s = 1 ∨ s = 2 ∨ s = 3 ∨ s = 4 ∨ s = 5 ∨ s = 7 ∨ s = 8 ∨ s = 9)
attribute [local simp] recv optK









@[simp] theorem me_words : eMethod Tryz.prog 138 (.agg []) "peerage/value.key" = some (124, .agg []) := by kernel_rfl
@[simp] theorem me_exact : eMethod Tryz.prog 139 (.agg []) "peerage/value.key" = some (131, .agg []) := by kernel_rfl
@[simp] theorem me_number : eMethod Tryz.prog 140 (.agg []) "peerage/value.key" = some (134, .agg []) := by kernel_rfl
@[simp] theorem me_truth : eMethod Tryz.prog 141 (.agg []) "peerage/value.key" = some (156, .agg []) := by kernel_rfl
@[simp] theorem me_octets : eMethod Tryz.prog 142 (.agg []) "peerage/value.key" = some (158, .agg []) := by kernel_rfl
@[simp] theorem me_digits : eMethod Tryz.prog 143 (.agg []) "peerage/value.key" = some (159, .agg []) := by kernel_rfl
@[simp] theorem me_point : eMethod Tryz.prog 144 (.agg []) "peerage/value.key" = some (171, .agg []) := by kernel_rfl
@[simp] theorem me_object : eMethod Tryz.prog 145 (.agg []) "peerage/value.key" = some (178, .agg []) := by kernel_rfl
@[simp] theorem me_plainNone : eMethod Tryz.prog 146 (.agg []) "peerage/value.key" = some (191, .agg []) := by kernel_rfl
set_option maxHeartbeats 4000000 in
set_option maxRecDepth 100000 in
theorem ruled_spec (s : Int) (H : Heap) : PCalls Tryz.prog 74 [.val (.int .i64 s)] H fun d H' => d = .tup [ruleD s, .val (.bool (isRule s))] ∧ H' = H := by
  refine PCalls.of_pwp Tryz.call74 Tryz.func74 rfl (by simp [Tryz.ntmps74]) ?_
  rw [Tryz.ntmps74]
  by_cases h1 : s = 1
  · subst h1
    refine W2 ?_
    simp [*, ruleD, isRule]
  by_cases h2 : s = 2
  · subst h2
    refine W2 ?_
    simp [*, ruleD, isRule]
  by_cases h3 : s = 3
  · subst h3
    refine W2 ?_
    simp [*, ruleD, isRule]
  by_cases h4 : s = 4
  · subst h4
    refine W2 ?_
    simp [*, ruleD, isRule]
  by_cases h5 : s = 5
  · subst h5
    refine W2 ?_
    simp [*, ruleD, isRule]
  by_cases h7 : s = 7
  · subst h7
    refine W2 ?_
    simp [*, ruleD, isRule]
  by_cases h8 : s = 8
  · subst h8
    refine W2 ?_
    simp [*, ruleD, isRule]
  by_cases h9 : s = 9
  · subst h9
    refine W2 ?_
    simp [*, ruleD, isRule]
  refine W2 ?_
  simp [*, ruleD, isRule]
def keyM (s : Int) (l : By) : By × Bool :=
  if s = 1 then (prepM false true l, (chars l).isSome && !(prepM false true l).isEmpty)
  else if s = 2 then (prepM false false l, (chars l).isSome && !(prepM false false l).isEmpty)
  else if s = 3 then (plainM l, (sizedM l).isSome)
  else if s = 4 then (l, decide (l = yesB) || decide (l = noB))
  else if s = 5 then (l, true)
  else if s = 7 then ((numericM l).getD [], (numericM l).isSome)
  else if s = 8 then (pointM l, (parseM l).isSome)
  else if s = 9 then (objectM l, objectOk l)
  else ([], false)
def ruleF (s : Int) : Nat := if s = 1 then 124 else if s = 2 then 131 else if s = 3 then 134 else if s = 4 then 156 else if s = 5 then 158 else if s = 7 then 159 else if s = 8 then 171 else if s = 9 then 178 else 191
set_option maxRecDepth 100000 in
theorem key_spec (s : Int) (l : By) (hl : l.length ≤ 100000) (H : Heap) (hG : MaxIs H 0) : PCalls Tryz.prog (ruleF s) [recv, sD l] H fun d H' => d = optK (keyM s l).1 (keyM s l).2 ∧ H' = H := by
  unfold ruleF keyM
  split
  · exact wordsKey_spec l hl H
  split
  · exact exactKey_spec l hl H
  split
  · exact numberKey_spec l hl H
  split
  · exact truthKey_spec l H
  split
  · exact octetsKey_spec l H
  split
  · exact digitsKey_spec l hl H hG
  split
  · exact pointKey_spec l H
  split
  · exact objectKey_spec l hl H
  · exact noneKey_spec l H
set_option maxRecDepth 100000 in
theorem rule_ifc (s : Int) : ∃ t, ruleD s = .ifc t (.agg []) ∧ eMethod Tryz.prog t (.agg []) "peerage/value.key" = some (ruleF s, .agg []) := by
  unfold ruleD ruleF
  split
  · exact ⟨_, rfl, me_words⟩
  split
  · exact ⟨_, rfl, me_exact⟩
  split
  · exact ⟨_, rfl, me_number⟩
  split
  · exact ⟨_, rfl, me_truth⟩
  split
  · exact ⟨_, rfl, me_octets⟩
  split
  · exact ⟨_, rfl, me_digits⟩
  split
  · exact ⟨_, rfl, me_point⟩
  split
  · exact ⟨_, rfl, me_object⟩
  · exact ⟨_, rfl, me_plainNone⟩
def holdM (s : Int) (l : By) : Option By := if isRule s = true ∧ l.length ≤ 512 ∧ (keyM s l).2 = true then some (keyM s l).1 else none
def heldD (o : Option By) : D := .agg [sD (o.getD []), .val (.bool o.isSome)]
set_option maxHeartbeats 4000000 in
set_option maxRecDepth 100000 in
theorem hold_spec (s : Int) (l : By) (hl : l.length ≤ 100000) (H : Heap) (hG : MaxIs H 0) : PCalls Tryz.prog 51 [.val (.int .i64 s), sD l] H fun d H' => d = heldD (holdM s l) ∧ H' = H := by
  refine PCalls.liftM (fun m => ?_) (fun d hd => by
    simp only [List.mem_cons, List.mem_nil_iff, or_false] at hd
    rcases hd with rfl | rfl <;> exact .val _) (.agg _ fun d hd => by
    simp only [List.mem_cons, List.mem_nil_iff, or_false] at hd
    rcases hd with rfl | rfl <;> exact .val _) hG
  refine PCalls.of_pwp Tryz.call51 Tryz.func51 rfl (by simp [Tryz.ntmps51]) ?_
  rw [Tryz.ntmps51]
  refine W2 ?_
  refine PCalls.mono (ruled_spec s _) ?_
  intro d3 H3 hd3
  rw [hd3.1, hd3.2]
  clear hd3
  try simp [*]
  cases hr : isRule s with
  | false =>
    have hh : holdM s l = none := by rw [holdM, hr]; rfl
    try simp [*]
    refine W2 ?_
    simp [*, heldD]
  | true =>
    by_cases h5 : 512 < (l.length : Int)
    · have hh : holdM s l = none := by rw [holdM, if_neg]; omega
      try simp [*]
      refine W2 ?_
      simp [*, heldD]
    · obtain ⟨t, ht1, ht2⟩ := rule_ifc s
      have hk := key_spec s l hl
      have hh : holdM s l = if (keyM s l).2 = true then some (keyM s l).1 else none := by
        rw [holdM, hr]
        by_cases q : (keyM s l).2 = true
        · rw [if_pos ⟨rfl, by omega, q⟩, if_pos q]
        · rw [if_neg (fun x => q x.2.2), if_neg q]
      obtain ⟨f, hf⟩ : ∃ f, ruleF s = f := ⟨_, rfl⟩
      obtain ⟨⟨k, ok⟩, hko⟩ : ∃ k, keyM s l = k := ⟨_, rfl⟩
      rw [hf] at ht2 hk
      rw [hko] at hh hk
      rw [ht1]
      clear hko
      try simp [*]
      refine W2 ?_
      refine PCalls.mono (hk _ (by exact maxG_is _ m rfl)) ?_
      intro d3 H3 hd3
      rw [hd3.1, hd3.2]
      clear hd3
      try simp [*]
      cases ok with
      | false =>
        have hh2 : holdM s l = none := hh
        clear hh
        try simp [*]
        refine W2 ?_
        simp [*, heldD]
      | true =>
        have hh2 : holdM s l = some k := hh
        clear hh
        try simp [*]
        refine W2 ?_
        simp [*, heldD]
theorem plainM_len (l : By) : (plainM l).length ≤ l.length + 1 := by
  unfold plainM
  split
  · simp
  · rename_i b ds h
    have := sizedM_len h
    split
    · simp
    · split
      · simp; omega
      · omega
theorem holdM_some {s : Int} {l k : By} (h : holdM s l = some k) : isRule s = true ∧ l.length ≤ 512 ∧ (keyM s l).2 = true ∧ (keyM s l).1 = k := by
  unfold holdM at h
  split at h
  · rename_i q; exact ⟨q.1, q.2.1, q.2.2, Option.some.inj h⟩
  · cases h
end Go.Pv
