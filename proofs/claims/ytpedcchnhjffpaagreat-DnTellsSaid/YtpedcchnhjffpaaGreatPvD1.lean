/- A part of the proof: functions of the program, walked, or what operations come to. -/
import Derived.Test.YtpedcchnhjffpaaGreatPvP1
import Derived.Test.YtpedcchnhjffpaaGreatPvV1
-- ZpvTameA ZpvDrawT
namespace Go.Pv
open Go.Proofs
attribute [-simp] eLen UInt8.ofNat_add



/-! ### Texts as they stand in names -/
theorem of_bytesS {P : Program} (hm : P.follows .mixedOrders = true) {f : FuncId} {g : UInt8 → By} (h : ((List.range 256).all fun n => match runFz P 60 f [.val (.int .u8 (n : Nat))] with | some (.val (.string s)) => decide (s.data.toList = g (UInt8.ofNat n)) | _ => false) = true) (c : UInt8) (H : Heap) :
    PCalls P f [.val (.int .u8 (c.toNat : Nat))] H fun d H' => d = sD (g c) ∧ H' = H := by
  have hc := List.all_eq_true.1 h c.toNat (List.mem_range.2 c.toNat_lt)
  split at hc
  · rename_i s e
    have hg : UInt8.ofNat c.toNat = c := by simp
    rw [hg] at hc
    have hb := of_decide_eq_true hc
    have hs : (D.val (.string s)) = sD (g c) := by
      rw [← hb]; rfl
    rw [hs] at e
    exact PCalls.liftG (runFz_spec hm e) (fun d hd => by simp at hd; subst hd; exact .val _) (.val _) H
  · cases hc
def hexB (n : Nat) : UInt8 := ([48, 49, 50, 51, 52, 53, 54, 55, 56, 57, 97, 98, 99, 100, 101, 102] : By).getD n 0
def twoM (c : UInt8) : By := [hexB (c.toNat / 16), hexB (c.toNat % 16)]
set_option maxRecDepth 100000 in
theorem etwo_spec (c : UInt8) (H : Heap) : PCalls Tryz.prog 72 [.val (.int .u8 (c.toNat : Nat))] H fun d H' => d = sD (twoM c) ∧ H' = H := of_bytesS mixedO (by kernel_rfl) c H
set_option maxRecDepth 100000 in
theorem rtwo_spec (c : UInt8) (H : Heap) : PCalls Tryz.prog 43 [.val (.int .u8 (c.toNat : Nat))] H fun d H' => d = sD (twoM c) ∧ H' = H := of_bytesS mixedO (by kernel_rfl) c H
theorem firstOcc {c : UInt8} : ∀ {l : By}, c ∈ l → ∃ p r, l = p ++ c :: r ∧ c ∉ p
  | x :: l, h => by
    by_cases hx : c = x
    · exact ⟨[], l, by simp [hx], by simp⟩
    · obtain ⟨p, r, e, hp⟩ := firstOcc (l := l) (by simpa [hx] using h)
      exact ⟨x :: p, r, by simp [e], by simp [hp, hx]⟩
theorem indexByte_mem (l : By) (c : UInt8) : (0 ≤ Lib.indexByte l c) ↔ c ∈ l := by
  by_cases h : c ∈ l
  · obtain ⟨p, r, rfl, hp⟩ := firstOcc h
    rw [indexByte_at c p r hp]
    simp
  · rw [indexByte_none c l h]
    simp [h]
set_option maxHeartbeats 4000000 in
set_option maxRecDepth 100000 in
theorem sIndexByte_spec (l : By) (c : UInt8) (H : Heap) : PCalls Tryz.prog 73 [sD l, .val (.int .u8 (c.toNat : Nat))] H fun d H' => d = .val (.int .i64 (Lib.indexByte l c)) ∧ H' = H := by
  refine PCalls.of_pwp Tryz.call73 Tryz.func73 rfl (by simp [Tryz.ntmps73]) ?_
  rw [Tryz.ntmps73]
  refine W2 ?_
  refine PCalls.mono (slIndexByte_spec l c _) ?_
  intro d3 H3 hd3
  rw [hd3.1, hd3.2]
  clear hd3
  try simp [*]
  refine W2 ?_
  simp [*]
set_option maxHeartbeats 4000000 in
set_option maxRecDepth 100000 in
theorem eamong_spec (l : By) (c : UInt8) (H : Heap) : PCalls Tryz.prog 49 [sD l, .val (.int .u8 (c.toNat : Nat))] H fun d H' => d = .val (.bool (decide (c ∈ l))) ∧ H' = H := by
  refine PCalls.of_pwp Tryz.call49 Tryz.func49 rfl (by simp [Tryz.ntmps49]) ?_
  rw [Tryz.ntmps49]
  have hi := indexByte_mem l c
  refine W2 ?_
  refine PCalls.mono (sIndexByte_spec l c _) ?_
  intro d3 H3 hd3
  rw [hd3.1, hd3.2]
  clear hd3
  try simp [*]
  by_cases h : c ∈ l
  · have h2 := hi.2 h
    try simp [*]
    refine W2 ?_
    simp [*]
  · have h2 : ¬ 0 ≤ Lib.indexByte l c := fun q => h (hi.1 q)
    try simp [*]
    refine W2 ?_
    simp [*]
set_option maxHeartbeats 4000000 in
set_option maxRecDepth 100000 in
theorem ramong_spec (l : By) (hl : l.length ≤ 100000) (c : UInt8) (H : Heap) : PCalls Tryz.prog 42 [sD l, .val (.int .u8 (c.toNat : Nat))] H fun d H' => d = .val (.bool (decide (c ∈ l))) ∧ H' = H := by
  refine PCalls.of_pwp Tryz.call42 Tryz.func42 rfl (by simp [Tryz.ntmps42]) ?_
  rw [Tryz.ntmps42]
  refine W2 ?_
  refine pwp_for (l.length) (fun k st => st.env.n = 17 ∧ st.df = [] ∧ st.H = H ∧ st.env.get 0 = sD l ∧ st.env.get 1 = .val (.int .u8 (c.toNat : Nat)) ∧ st.env.get 5 = .val (.int .i64 k) ∧ (c ∉ l.take k)) ⟨by first | (simp; done) | (simp [*]; done), rfl, by first | rfl | simp, by first | (simp; done) | (simp [*]; done), by first | (simp; done) | (simp [*]; done), by first | (simp; done) | (simp [*]; done), by first | (simp; done) | (simp [*]; done)⟩ ?_ ?_
  · rintro k ⟨E, Hx, df⟩ hk ⟨en, edf, eH, e0, e1, e5, eP⟩
    simp only at en edf eH e0 e1 e5
    subst edf; replace eH := eH.symm; subst eH
    have hki : (k : Int) < ((l.length : Nat) : Int) := by omega
    have hkw := wrapSucc k (by omega)
    obtain ⟨x, hx⟩ : ∃ x, l[k]? = some x := ⟨_, List.getElem?_eq_getElem (by omega)⟩
    have bx : byteAt l k = (x.toNat : Int) := byteAt_of hx
    have lx := toNat_lt x
    have hs : c ∈ l.take (k + 1) ↔ c = x := by
      rw [List.take_add_one, hx]
      simp [eP]
    by_cases h : (x.toNat : Int) = (c.toNat : Int)
    · have h2 : c = x := by
        have : x.toNat = c.toNat := by omega
        exact (UInt8.toNat_inj.1 this).symm
      have h3 : c ∈ l := by rw [h2]; exact List.mem_of_getElem? hx
      clear hs
      subst h2
      try simp [*]
      refine W2 ?_
      simp [*]
    · have h2 : ¬ c = x := fun e => h (by rw [e])
      have h3 : c ∉ l.take (k + 1) := fun q => h2 (hs.1 q)
      clear hs
      try simp [*]
      refine W2 ?_
      simp [*]
  · rintro ⟨E, Hx, df⟩ ⟨en, edf, eH, e0, e1, e5, eP⟩
    simp only at en edf eH e0 e1 e5
    subst edf; replace eH := eH.symm; subst eH
    have h3 : c ∉ l := by simpa using eP
    refine W2 ?_
    simp [*]
end Go.Pv
-- ZpvTameA ZpvDrawT
namespace Go.Pv
open Go.Proofs
attribute [-simp] eLen UInt8.ofNat_add



/-! ### escape.Put -/
set_option maxHeartbeats 4000000 in
set_option maxRecDepth 100000 in
theorem WriteByte_spec {H : Heap} {p : D} {out : By} (h : Bld H p out) (c : UInt8) (hl : out.length + 1 ≤ 1000000) : PCalls Tryz.prog 71 [p, .val (.int .u8 (c.toNat : Nat))] H fun d H' => Bld H' p (out ++ [c]) ∧ d = .val .nilIface := by
  obtain ⟨i, a, x, rfl, hB⟩ := h
  refine PCalls.of_pwp Tryz.call71 Tryz.func71 rfl (by simp [Tryz.ntmps71]) ?_
  rw [Tryz.ntmps71]
  refine W2 ?_
  refine PCalls.mono (copyCheck_spec hB) ?_
  rintro dc Hc ⟨⟨h1, h2, h3, h4, h5⟩, hnx, hG⟩
  have hlx := lenG78 h3
  have hby : D.val (.int .u8 (c.toNat : Nat)) = byD c := rfl
  refine W2 ?_
  refine oK_grow h3 ?_ ?_
  · simp; omega
  intro d1 H1 hG1 hn1 hH1 hf1
  try simp [*]
  obtain ⟨k1, k2⟩ := hf1 i h5 h4
  obtain ⟨o1, o2⟩ := Grow.oneP hG1
  rw [h1] at k1
  refine W2 ?_
  simp [*, setIn, updD]
  refine W2 ?_
  simp [*]
  refine ⟨i, _, _, rfl, by simp, .inr rfl, ?_, k2, by simp; omega⟩
  rw [List.map_append]
  exact Grow.put hG1 k2
def special : By := [34, 43, 44, 59, 60, 62, 61, 92]
def digitsB (right : Bool) (c : UInt8) : Bool := decide ((c.toNat : Int) < 32) || decide ((c.toNat : Int) = 127) || (decide (127 < (c.toNat : Int)) && !right)
def markB (last : Int) (k : Nat) (c : UInt8) : Bool := decide (c ∈ special) || (decide ((c.toNat : Int) = 32) && (decide (k = 0) || decide ((k : Int) = last))) || (decide ((c.toNat : Int) = 35) && decide (k = 0))
def putC (right : Bool) (last : Int) (k : Nat) (c : UInt8) : By := if digitsB right c then 92 :: twoM c else if markB last k c then [92, c] else [c]
def putK (l : By) (k : Nat) : By := (List.range k).flatMap fun j => putC (chars l).isSome ((l.length : Int) - 1) j (l.getD j 0)
def escM (l : By) : By := putK l l.length
theorem putC_len (r : Bool) (z : Int) (k : Nat) (c : UInt8) : (putC r z k c).length ≤ 3 := by
  unfold putC twoM; split
  · simp
  · split <;> simp
theorem putK_succ (l : By) (k : Nat) (c : UInt8) (h : l[k]? = some c) : putK l (k + 1) = putK l k ++ putC (chars l).isSome ((l.length : Int) - 1) k c := by
  unfold putK
  rw [List.range_succ, List.flatMap_append]
  simp [h]
theorem putK_len (l : By) : ∀ k, (putK l k).length ≤ 3 * k
  | 0 => by simp [putK]
  | k + 1 => by
    have h := putK_len l k
    unfold putK at *
    rw [List.range_succ, List.flatMap_append, List.length_append]
    have := putC_len (chars l).isSome ((l.length : Int) - 1) k (l.getD k 0)
    simp only [List.flatMap_cons, List.flatMap_nil, List.append_nil]
    omega
end Go.Pv
-- ZpvTameA ZpvDrawT
namespace Go.Pv
open Go.Proofs
attribute [-simp] eLen UInt8.ofNat_add



/-! ### escape.Put -/
set_option maxHeartbeats 4000000 in
set_option maxRecDepth 100000 in
theorem ePut1_spec (k : Nat) (c : UInt8) (r : Bool) (H : Heap) : PCalls Tryz.prog 47 [.val (.int .i64 (k : Nat)), .val (.int .u8 (c.toNat : Nat)), .obj [.val (.bool r)] 0] H fun d H' => d = .val (.bool (digitsB r c)) ∧ H' = H := by
  refine PCalls.of_pwp Tryz.call47 Tryz.func47 rfl (by simp [Tryz.ntmps47]) ?_
  rw [Tryz.ntmps47]
  by_cases h1 : (c.toNat : Int) < 32
  · have ha : digitsB r c = true := by simp [digitsB, h1]
    refine W2 ?_
    simp [*]
  · by_cases h2 : (c.toNat : Int) = 127
    · have ha : digitsB r c = true := by simp [digitsB, h2]
      refine W2 ?_
      simp [*]
    · by_cases h3 : 127 < (c.toNat : Int)
      · cases r with
        | true =>
          have ha : digitsB true c = false := by simp [digitsB, h1, h2]
          refine W2 ?_
          simp [*]
        | false =>
          have ha : digitsB false c = true := by simp [digitsB, h3]
          refine W2 ?_
          simp [*]
      · have ha : digitsB r c = false := by simp [digitsB, h1, h2, h3]
        refine W2 ?_
        simp [*]
set_option maxHeartbeats 4000000 in
set_option maxRecDepth 100000 in
theorem ePut2_spec (k : Nat) (c : UInt8) (z : Int) (H : Heap) : PCalls Tryz.prog 48 [.val (.int .i64 (k : Nat)), .val (.int .u8 (c.toNat : Nat)), .obj [.val (.int .i64 z)] 0] H fun d H' => d = .val (.bool (markB z k c)) ∧ H' = H := by
  refine PCalls.of_pwp Tryz.call48 Tryz.func48 rfl (by simp [Tryz.ntmps48]) ?_
  rw [Tryz.ntmps48]
  refine W2 ?_
  refine PCalls.mono (eamong_spec special c _) ?_
  intro d3 H3 hd3
  rw [hd3.1, hd3.2]
  clear hd3
  try simp [*]
  by_cases h0 : c ∈ special
  · have ha : markB z k c = true := by simp [markB, h0]
    try simp [*]
    refine W2 ?_
    simp [*]
  · by_cases h1 : (c.toNat : Int) = 32
    · by_cases h2 : k = 0
      · have ha : markB z k c = true := by
          simp [markB, h1, h2]
        subst h2
        try simp [*]
        refine W2 ?_
        simp [*]
      · by_cases h3 : (k : Int) = z
        · have ha : markB z k c = true := by simp [markB, h1, h3]
          subst h3
          try simp [*]
          refine W2 ?_
          simp [*]
        · have ha : markB z k c = false := by
            simp [markB, h0, h1, h2, h3]
          try simp [*]
          refine W2 ?_
          simp [*]
    · by_cases h4 : (c.toNat : Int) = 35
      · by_cases h2 : k = 0
        · have ha : markB z k c = true := by
            simp [markB, h4, h2]
          subst h2
          try simp [*]
          refine W2 ?_
          simp [*]
        · have ha : markB z k c = false := by
            simp [markB, h0, h1, h2]
          try simp [*]
          refine W2 ?_
          simp [*]
      · have ha : markB z k c = false := by simp [markB, h0, h1, h4]
        try simp [*]
        refine W2 ?_
        simp [*]
end Go.Pv
-- ZpvTameA ZpvDrawT
namespace Go.Pv
open Go.Proofs
attribute [-simp] eLen UInt8.ofNat_add



/-! ### escape.Put -/
def putF (r : Bool) (z : Int) : List D := [.clo (.func 47) [] [.obj [.val (.bool r)] 0], .clo (.func 48) [] [.obj [.val (.int .i64 z)] 0]]
def putL (r : Bool) (z : Int) (l : By) (k : Nat) : By := (List.range k).flatMap fun j => putC r z j (l.getD j 0)
theorem putL_succ (r : Bool) (z : Int) (l : By) (k : Nat) (c : UInt8) (h : l[k]? = some c) : putL r z l (k + 1) = putL r z l k ++ putC r z k c := by
  unfold putL
  rw [List.range_succ, List.flatMap_append]
  simp [h]
theorem putL_len (r : Bool) (z : Int) (l : By) : ∀ k, (putL r z l k).length ≤ 3 * k
  | 0 => by simp [putL]
  | k + 1 => by
    have h := putL_len r z l k
    unfold putL at *
    rw [List.range_succ, List.flatMap_append, List.length_append]
    have := putC_len r z k (l.getD k 0)
    simp only [List.flatMap_cons, List.flatMap_nil, List.append_nil]
    omega
theorem twoM_len (c : UInt8) : (twoM c).length = 2 := rfl
set_option maxHeartbeats 4000000 in
set_option maxRecDepth 100000 in
theorem eescaped_local (l : By) (r : Bool) (z : Int) (hl : l.length ≤ 100000) : PCalls Tryz.prog 46 [sD l, .clo (.func 47) [] [.obj [.val (.bool r)] 0], .clo (.func 48) [] [.obj [.val (.int .i64 z)] 0]] (noHeap noG) fun d H' => d = sD (putL r z l l.length) := by
  refine PCalls.of_pwp Tryz.call46 Tryz.func46 rfl (by simp [Tryz.ntmps46]) ?_
  rw [Tryz.ntmps46]
  refine W2 ?_
  refine pwp_for (l.length) (fun k st => st.env.n = 39 ∧ st.df = [] ∧ st.env.get 0 = sD l ∧ st.env.get 1 = .clo (.func 47) [] [.obj [.val (.bool r)] 0] ∧ st.env.get 2 = .clo (.func 48) [] [.obj [.val (.int .i64 z)] 0] ∧ st.env.get 7 = .rptr 0 108 0 0 ∧ st.env.get 11 = .val (.int .i64 (l.length : Nat)) ∧ st.env.get 12 = .val (.int .i64 k) ∧ (Bld st.H (.rptr 0 108 0 0) (putL r z l k))) ⟨by first | (simp; done) | (simp [*]; done), rfl, by first | (simp; done) | (simp [*]; done), by first | (simp; done) | (simp [*]; done), by first | (simp; done) | (simp [*]; done), by first | (simp; done) | (simp [*]; done), by first | (simp; done) | (simp [*]; done), by first | (simp; done) | (simp [*]; done), ?_⟩ ?_ ?_
  · refine ⟨0, _, _, rfl, ⟨?_, .inl rfl, .inl ⟨rfl, rfl⟩, fun _ _ _ h => (by cases h), ?_⟩⟩
    · simp
    · simp
  · rintro k ⟨E, Hx, df⟩ hk ⟨en, edf, e0, e1, e2, e7, e11, e12, eP⟩
    simp only at en edf e0 e1 e2 e7 e11 e12
    subst edf
    have hki : (k : Int) < ((l.length : Nat) : Int) := by omega
    have hkw := wrapSucc k (by omega)
    obtain ⟨c, hc⟩ : ∃ c, l[k]? = some c := ⟨_, List.getElem?_eq_getElem (by omega)⟩
    have bc : byteAt l k = (c.toNat : Int) := byteAt_of hc
    have lc := toNat_lt c
    have hs := putL_succ r z l k c hc
    have hn := putL_len r z l k
    obtain ⟨out, ho⟩ : ∃ out, putL r z l k = out := ⟨_, rfl⟩
    rw [ho] at eP hn hs
    clear ho
    refine W2 ?_
    refine PCalls.mono (ePut1_spec k c r _) ?_
    intro d3 H3 hd3
    rw [hd3.1, hd3.2]
    clear hd3
    try simp [*]
    cases h1 : digitsB r c with
    | true =>
      have hp : putC r z k c = 92 :: twoM c := by rw [putC, h1]; rfl
      rw [hp] at hs
      clear hp
      try simp [*]
      refine W2 ?_
      refine PCalls.mono (WriteByte_spec eP 92 (by omega)) ?_
      rintro da Ha ⟨hBa, hda⟩
      subst hda
      try simp [*]
      refine W2 ?_
      refine PCalls.mono (etwo_spec c _) ?_
      intro d3 H3 hd3
      rw [hd3.1, hd3.2]
      clear hd3
      try simp [*]
      try simp [*]
      refine W2 ?_
      refine PCalls.mono (WriteString_spec hBa (twoM c) (by rw [twoM_len]; simp; omega)) ?_
      rintro db Hb ⟨hBb, hdb⟩
      subst hdb
      rw [List.append_assoc] at hBb
      try simp [*]
      refine W2 ?_
      simp [*]
      exact hBb
    | false =>
      try simp [*]
      refine W2 ?_
      refine PCalls.mono (ePut2_spec k c z _) ?_
      intro d3 H3 hd3
      rw [hd3.1, hd3.2]
      clear hd3
      try simp [*]
      cases h2 : markB z k c with
      | true =>
        have hp : putC r z k c = [92, c] := by rw [putC, h1, h2]; rfl
        rw [hp] at hs
        clear hp
        try simp [*]
        refine W2 ?_
        refine PCalls.mono (WriteByte_spec eP 92 (by omega)) ?_
        rintro da Ha ⟨hBa, hda⟩
        subst hda
        try simp [*]
        refine W2 ?_
        refine PCalls.mono (WriteByte_spec hBa c (by simp; omega)) ?_
        rintro db Hb ⟨hBb, hdb⟩
        subst hdb
        rw [List.append_assoc] at hBb
        try simp [*]
        refine W2 ?_
        simp [*]
        exact hBb
      | false =>
        have hp : putC r z k c = [c] := by rw [putC, h1, h2]; rfl
        rw [hp] at hs
        clear hp
        try simp [*]
        refine W2 ?_
        refine PCalls.mono (WriteByte_spec eP c (by omega)) ?_
        rintro da Ha ⟨hBa, hda⟩
        subst hda
        try simp [*]
        refine W2 ?_
        simp [*]
  · rintro ⟨E, Hx, df⟩ ⟨en, edf, e0, e1, e2, e7, e11, e12, eP⟩
    simp only at en edf e0 e1 e2 e7 e11 e12
    subst edf
    refine W2 ?_
    refine PCalls.mono (BString_spec eP) ?_
    rintro da Ha hda
    subst hda
    try simp [*]
    refine W2 ?_
    simp [*]
set_option maxRecDepth 100000 in
theorem eescaped_spec (l : By) (r : Bool) (z : Int) (hl : l.length ≤ 100000) (H : Heap) : PCalls Tryz.prog 46 [sD l, .clo (.func 47) [] [.obj [.val (.bool r)] 0], .clo (.func 48) [] [.obj [.val (.int .i64 z)] 0]] H fun d H' => d = sD (putL r z l l.length) ∧ H' = H := by
  refine PCalls.liftG (eescaped_local l r z hl) ?_ (.val _) H
  intro d hd
  simp only [List.mem_cons, List.not_mem_nil, or_false] at hd
  rcases hd with rfl | rfl | rfl
  · exact .val _
  · exact .clo _ _ _ (by simp) (fun d hd => by simp at hd; subst hd; exact .obj _ _ (fun d hd => by simp at hd; subst hd; exact .val _))
  · exact .clo _ _ _ (by simp) (fun d hd => by simp at hd; subst hd; exact .obj _ _ (fun d hd => by simp at hd; subst hd; exact .val _))
theorem escL_M (l : By) : putL (chars l).isSome ((l.length : Int) - 1) l l.length = escM l := rfl
set_option maxHeartbeats 4000000 in
set_option maxRecDepth 100000 in
theorem ePut_local (l : By) (hl : l.length ≤ 100000) : PCalls Tryz.prog 19 [sD l] (noHeap noG) fun d H' => d = sD (escM l) := by
  refine PCalls.of_pwp Tryz.call19 Tryz.func19 rfl (by simp [Tryz.ntmps19]) ?_
  rw [Tryz.ntmps19]
  have w := wrapI ((l.length : Int) - 1) (by omega) (by omega)
  have hp := escL_M l
  refine seq_k fun K0 h0 => ?_
  have q0 : Hold _ := ⟨h0⟩
  clear h0
  refine W2 ?_
  refine q0.out _ ?_
  refine seq_k fun K1 h1 => ?_
  have q1 : Hold _ := ⟨h1⟩
  clear h1
  refine W2 ?_
  refine PCalls.mono (Right_spec l hl _) ?_
  intro d3 H3 hd3
  rw [hd3.1, hd3.2]
  clear hd3
  try simp [*]
  obtain ⟨r, hr⟩ : ∃ r, (chars l).isSome = r := ⟨_, rfl⟩
  rw [hr] at hp
  rw [hr]
  try simp [*]
  refine W2 ?_
  refine q1.out _ ?_
  refine seq_k fun K2 h2 => ?_
  have q2 : Hold _ := ⟨h2⟩
  clear h2
  refine W2 ?_
  refine q2.out _ ?_
  clear q0 q1 q2
  refine pwp_freeze (k := 3) [(3, .obj [.val (.bool r)] 0), (4, .obj [.val (.int .i64 ((l.length : Int) - 1))] 0)] ?_ ?_
  · intro p hp
    simp only [List.mem_cons, List.not_mem_nil, or_false] at hp
    rcases hp with rfl | rfl <;> simp [fz, mapO]
  simp only [setAll]
  refine W2 ?_
  refine PCalls.mono (eescaped_spec l r ((l.length : Int) - 1) hl _) ?_
  intro d3 H3 hd3
  rw [hd3.1, hd3.2]
  clear hd3
  try simp [*]
  try simp [*]
  refine W2 ?_
  simp [*]
set_option maxRecDepth 100000 in
theorem ePut_spec (l : By) (hl : l.length ≤ 100000) (H : Heap) : PCalls Tryz.prog 19 [sD l] H fun d H' => d = sD (escM l) ∧ H' = H :=
  PCalls.alone (vs := [.string ⟨l.toArray⟩]) (ePut_local l hl) H
end Go.Pv
-- ZpvTameA ZpvDrawT
namespace Go.Pv
open Go.Proofs
attribute [-simp] eLen UInt8.ofNat_add



/-! ### The document's Put -/
theorem digits_mark (r : Bool) (z : Int) (k : Nat) (c : UInt8) (h : markB z k c = true) : digitsB r c = false := by
  have hc : c ∈ special ∨ c = 32 ∨ c = 35 := by
    simp only [markB, Bool.or_eq_true, Bool.and_eq_true, decide_eq_true_eq] at h
    rcases h with (h | h) | h
    · exact .inl h
    · exact .inr (.inl (UInt8.toNat_inj.1 (by have := h.1; have e : (32 : UInt8).toNat = 32 := rfl; omega)))
    · exact .inr (.inr (UInt8.toNat_inj.1 (by have := h.1; have e : (35 : UInt8).toNat = 35 := rfl; omega)))
  have hs : ∀ x ∈ (special ++ [32, 35]), digitsB r x = false := by
    cases r <;> decide
  refine hs c ?_
  rcases hc with h | h | h
  · simp [h]
  · simp [h]
  · simp [h]
set_option maxHeartbeats 4000000 in
set_option maxRecDepth 100000 in
theorem rePut_spec (l : By) (hl : l.length ≤ 100000) (H : Heap) : PCalls Tryz.prog 16 [sD l] H fun d H' => d = sD (escM l) ∧ H' = H := by
  refine PCalls.of_pwp Tryz.call16 Tryz.func16 rfl (by simp [Tryz.ntmps16]) ?_
  rw [Tryz.ntmps16]
  have w := wrapI ((l.length : Int) - 1) (by omega) (by omega)
  have hp := escL_M l
  have hcm : decide (0 ≤ countM l) = (chars l).isSome := by
    cases hc : chars l with
    | none => simp [countM, hc]
    | some cs => simp [countM, hc]
  refine W2 ?_
  refine PCalls.mono (rCount_spec l hl _) ?_
  intro d3 H3 hd3
  rw [hd3.1, hd3.2]
  clear hd3
  try simp [*]
  obtain ⟨r, hr⟩ : ∃ r, (chars l).isSome = r := ⟨_, rfl⟩
  rw [hr] at hp hcm
  obtain ⟨cm, hcme⟩ : ∃ cm, countM l = cm := ⟨_, rfl⟩
  rw [hcme] at hcm ⊢
  clear hcme
  obtain ⟨z, hz⟩ : ∃ z, (l.length : Int) - 1 = z := ⟨_, rfl⟩
  rw [hz] at hp w
  try simp [*]
  refine W2 ?_
  have hp0 : putL r z l 0 = [] := rfl
  refine pwp_for (l.length) (fun k st => st.env.n = 81 ∧ st.df = [] ∧ st.H = H ∧ st.env.get 0 = sD l ∧ st.env.get 3 = .val (.bool r) ∧ st.env.get 4 = sD (putL r z l k) ∧ st.env.get 5 = .val (.int .i64 k)) ⟨by first | (simp; done) | (simp [*]; done), rfl, by first | rfl | simp, by first | (simp; done) | (simp [*]; done), by first | (simp; done) | (simp [*]; done), by first | (simp; done) | (simp [*]; done), by first | (simp; done) | (simp [*]; done)⟩ ?_ ?_
  · rintro k ⟨E, Hx, df⟩ hk ⟨en, edf, eH, e0, e3, e4, e5⟩
    simp only at en edf eH e0 e3 e4 e5
    subst edf; replace eH := eH.symm; subst eH
    have hki : (k : Int) < ((l.length : Nat) : Int) := by omega
    have hkw := wrapSucc k (by omega)
    obtain ⟨c, hc⟩ : ∃ c, l[k]? = some c := ⟨_, List.getElem?_eq_getElem (by omega)⟩
    have bc : byteAt l k = (c.toNat : Int) := byteAt_of hc
    have lc := toNat_lt c
    have hs := putL_succ r z l k c hc
    have hn := putL_len r z l k
    obtain ⟨out, ho⟩ : ∃ out, putL r z l k = out := ⟨_, rfl⟩
    rw [ho] at hs hn e4
    clear ho
    refine W2 ?_
    refine PCalls.mono (ramong_spec special (by decide) c _) ?_
    intro d3 H3 hd3
    rw [hd3.1, hd3.2]
    clear hd3
    try simp [*]
    have hdt : (l.take (k + 1)).drop k = [c] := by
      rw [List.take_add_one, hc, List.drop_append_of_le_length (by simp; omega)]
      simp
    have hM : (c ∈ special ∧ markB z k c = true) ∨ (c ∉ special ∧ (c.toNat : Int) = 32 ∧ k = 0 ∧ markB z k c = true) ∨ (c ∉ special ∧ (c.toNat : Int) = 32 ∧ ¬ k = 0 ∧ (k : Int) = z ∧ markB z k c = true) ∨ (c ∉ special ∧ ¬ (c.toNat : Int) = 32 ∧ (c.toNat : Int) = 35 ∧ k = 0 ∧ markB z k c = true) ∨
        (c ∉ special ∧ (c.toNat : Int) = 32 ∧ ¬ k = 0 ∧ ¬ (k : Int) = z ∧ markB z k c = false) ∨ (c ∉ special ∧ ¬ (c.toNat : Int) = 32 ∧ (c.toNat : Int) = 35 ∧ ¬ k = 0 ∧ markB z k c = false) ∨ (c ∉ special ∧ ¬ (c.toNat : Int) = 32 ∧ ¬ (c.toNat : Int) = 35 ∧ markB z k c = false) := by
      by_cases h0 : c ∈ special <;> by_cases h1 : (c.toNat : Int) = 32 <;> by_cases h2 : k = 0 <;> by_cases h3 : (k : Int) = z <;> by_cases h4 : (c.toNat : Int) = 35 <;> simp [h0, h1, h2, h3, h4, markB] <;> omega
    have hD : ((c.toNat : Int) < 32 ∧ digitsB r c = true) ∨ (¬ (c.toNat : Int) < 32 ∧ (c.toNat : Int) = 127 ∧ digitsB r c = true) ∨ (¬ (c.toNat : Int) < 32 ∧ ¬ (c.toNat : Int) = 127 ∧ 127 < (c.toNat : Int) ∧ r = false ∧ digitsB r c = true) ∨
        (¬ (c.toNat : Int) < 32 ∧ ¬ (c.toNat : Int) = 127 ∧ 127 < (c.toNat : Int) ∧ r = true ∧ digitsB r c = false) ∨ (¬ (c.toNat : Int) < 32 ∧ ¬ (c.toNat : Int) = 127 ∧ ¬ 127 < (c.toNat : Int) ∧ digitsB r c = false) := by
      cases r <;> by_cases h1 : (c.toNat : Int) < 32 <;> by_cases h2 : (c.toNat : Int) = 127 <;> by_cases h3 : 127 < (c.toNat : Int) <;> simp [h1, h2, h3, digitsB]
    have qD : Hold _ := ⟨hD⟩
    clear hD
    have hmd := digits_mark r z k c
    have k1 : (k : Int) + 1 ≤ (l.length : Int) := by omega
    have k2 : (k : Int) ≤ (k : Int) + 1 := by omega
    have b6 : out.length ≤ 9223372036854775806 := by omega
    have b5 : out.length ≤ 9223372036854775805 := by omega
    have b4 : out.length ≤ 9223372036854775804 := by omega
    have ht2 := twoM_len c
    rcases hM with ⟨h0, hm⟩ | ⟨h0, h1, h2, hm⟩ | ⟨h0, h1, h2, h3, hm⟩ | ⟨h0, h1, h4, h2, hm⟩ | hM
    · have hp2 : putC r z k c = [92, c] := by rw [putC, hmd hm, hm]; rfl
      rw [hp2] at hs
      clear hm hmd hp2
      try simp [*]
      refine W2 ?_
      simp [*]
    · have hp2 : putC r z k c = [92, c] := by rw [putC, hmd hm, hm]; rfl
      rw [hp2] at hs
      clear hm hmd hp2
      subst h2
      simp only [Nat.zero_add, List.drop_zero] at hdt hs
      have w1 : IntKind.i64.wrap 1 = 1 := by decide
      have k11 : (1 : Int) ≤ (l.length : Int) := by omega
      try simp [*]
      refine W2 ?_
      simp [*]
    · have hp2 : putC r z k c = [92, c] := by rw [putC, hmd hm, hm]; rfl
      rw [hp2] at hs
      clear hm hmd hp2
      subst h3
      try simp [*]
      refine W2 ?_
      simp [*]
    · have hp2 : putC r z k c = [92, c] := by rw [putC, hmd hm, hm]; rfl
      rw [hp2] at hs
      clear hm hmd hp2
      subst h2
      simp only [Nat.zero_add, List.drop_zero] at hdt hs
      have w1 : IntKind.i64.wrap 1 = 1 := by decide
      have k11 : (1 : Int) ≤ (l.length : Int) := by omega
      try simp [*]
      refine W2 ?_
      simp [*]
    rcases hM with ⟨h0, h1, h2, h3, hm⟩ | ⟨h0, h1, h4, h2, hm⟩ | ⟨h0, h1, h4, hm⟩
    all_goals
      rcases qD.out with ⟨g1, hd⟩ | ⟨g1, g2, hd⟩ | ⟨g1, g2, g3, rfl, hd⟩ | ⟨g1, g2, g3, rfl, hd⟩ | ⟨g1, g2, g3, hd⟩
      all_goals first | (exfalso; omega) | skip
      all_goals
        first
        | have hp2 := show putC r z k c = 92 :: twoM c by rw [putC, hd]; rfl
        | have hp2 := show putC false z k c = 92 :: twoM c by rw [putC, hd]; rfl
        | have hp2 := show putC r z k c = [c] by rw [putC, hd, hm]; rfl
        | have hp2 := show putC true z k c = [c] by rw [putC, hd, hm]; rfl
        rw [hp2] at hs
        clear hm hd hmd hp2 qD
        have hr := Hold.mk (rtwo_spec c)
        try simp only [g2] at hr
        try simp [*]
        refine W2 ?_
        first
        | done
        | (simp [*]; done)
        | skip
      all_goals
        refine PCalls.mono (hr.out _) ?_
        intro d3 H3 hd3
        rw [hd3.1, hd3.2]
        clear hd3
        try simp [*]
        clear hr
        try simp [*]
        refine W2 ?_
        try simp [*]
  · rintro ⟨E, Hx, df⟩ ⟨en, edf, eH, e0, e3, e4, e5⟩
    simp only at en edf eH e0 e3 e4 e5
    subst edf; replace eH := eH.symm; subst eH
    refine W2 ?_
    simp [*]
end Go.Pv
