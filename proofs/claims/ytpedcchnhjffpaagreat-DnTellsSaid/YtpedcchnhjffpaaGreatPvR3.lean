/- A part of the proof: functions of the program, walked, or what operations come to. -/
import Derived.Test.YtpedcchnhjffpaaGreatPvP1
import Derived.Test.YtpedcchnhjffpaaGreatPvTameA
import Derived.Test.YtpedcchnhjffpaaGreatPvTameB
import Derived.Test.YtpedcchnhjffpaaGreatPvJN
import Derived.Test.YtpedcchnhjffpaaGreatPvAside
-- ZpvTameA ZpvDrawT
namespace Go.Pv
open Go.Proofs
attribute [-simp] eLen UInt8.ofNat_add

def LowGrow (l : By) (k : Nat) (H : Heap) (d : D) : Prop := Grow H d 5 (((l.take k).map lowB).map byD)
set_option maxHeartbeats 4000000 in
set_option maxRecDepth 100000 in
theorem rLower_local (l : By) (hl : l.length ≤ 100000) : PCalls Tryz.prog 15 [sD l] (noHeap noG) fun d _ => d = sD (lowL l) := by
  refine PCalls.of_pwp Tryz.call15 Tryz.func15 rfl (by simp [Tryz.ntmps15]) ?_
  rw [Tryz.ntmps15]
  refine W2 ?_
  refine pwp_for (l.length) (fun k st => st.env.n = 29 ∧ st.df = [] ∧ st.env.get 0 = sD l ∧ st.env.get 4 = .val (.int .i64 (k : Nat)) ∧ (LowGrow l k st.H (st.env.get 3))) ⟨by first | (simp; done) | (simp [*]; done), rfl, by first | (simp; done) | (simp [*]; done), by first | (simp; done) | (simp [*]; done), ?_⟩ ?_ ?_
  · unfold LowGrow; simpa using Grow.nil _ _
  · rintro k ⟨E, Hx, df⟩ hk ⟨en, edf, e0, e4, eP⟩
    simp only at en edf e0 e4
    subst edf
    have hki : (k : Int) < ((l.length : Nat) : Int) := by omega
    have hkw := wrapSucc k (by omega)
    obtain ⟨d3, e3⟩ : ∃ d, E.get 3 = d := ⟨_, rfl⟩
    simp only [e3, LowGrow] at eP
    obtain ⟨c, hc⟩ : ∃ c, l[k]? = some c := ⟨_, List.getElem?_eq_getElem (by omega)⟩
    have bc : byteAt l k = (c.toNat : Int) := byteAt_of hc
    have lc := toNat_lt c
    have hsc : ((l.take (k + 1)).map lowB).map byD = ((l.take k).map lowB).map byD ++ [byD (lowB c)] := by rw [List.take_add_one, hc]; simp
    have hbd : (((l.take k).map lowB).map byD).length ≤ 100000 := by simp; omega
    generalize ((l.take k).map lowB).map byD = M at *
    by_cases h1 : 65 ≤ (c.toNat : Int)
    · by_cases h2 : (c.toNat : Int) ≤ 90
      · have hup := lowB_up c h1 h2
        refine W2 ?_
        refine oK_grow eP ?_ ?_
        · omega
        intro d2 H2 hG2 hn2 hH2 hf2
        try simp [*]
        refine W2 ?_
        simp [*]
        unfold LowGrow
        rw [hsc]; exact hG2
      · have hkp := lowB_keep c (fun h => h2 h.2)
        rw [hkp] at hsc
        refine W2 ?_
        refine oK_grow eP ?_ ?_
        · omega
        intro d2 H2 hG2 hn2 hH2 hf2
        try simp [*]
        refine W2 ?_
        simp [*]
        unfold LowGrow
        rw [hsc]; exact hG2
    · have hkp := lowB_keep c (fun h => h1 h.1)
      rw [hkp] at hsc
      refine W2 ?_
      refine oK_grow eP ?_ ?_
      · omega
      intro d2 H2 hG2 hn2 hH2 hf2
      try simp [*]
      refine W2 ?_
      simp [*]
      unfold LowGrow
      rw [hsc]; exact hG2
  · rintro ⟨E, Hx, df⟩ ⟨en, edf, e0, e4, eP⟩
    simp only at en edf e0 e4
    subst edf
    obtain ⟨d3, e3⟩ : ∃ d, E.get 3 = d := ⟨_, rfl⟩
    simp only [e3, LowGrow, List.take_length] at eP
    have hts := eToStr_by (l.map lowB)
    have hlz : lowL l = l.map lowB := rfl
    have hll : ((l.map lowB).map byD).length = l.length := by simp
    rcases eP with ⟨hz, rfl⟩ | ⟨i, hi, rfl, hgi, _⟩
    · have : l = [] := by simpa using hz
      subst this
      clear hts hll hlz
      have h0s : eToStr [] = some (.val (.string ⟨#[]⟩)) := rfl
      refine W2 ?_
      simp [*, lowL]
    · have htk : ((l.map lowB).map byD).take l.length = (l.map lowB).map byD := List.take_of_length_le (by omega)
      rw [hll] at e3
      obtain ⟨M, hM⟩ : ∃ M, (l.map lowB).map byD = M := ⟨_, rfl⟩
      rw [hM] at hgi hts hll htk
      clear hM
      refine W2 ?_
      simp [*]
set_option maxRecDepth 100000 in
theorem rLower_spec (l : By) (hl : l.length ≤ 100000) (H : Heap) : PCalls Tryz.prog 15 [sD l] H fun d H' => d = sD (lowL l) ∧ H' = H :=
  PCalls.alone (vs := [.string ⟨l.toArray⟩]) (rLower_local l hl) H
/-! ### The document's classes -/
theorem rclasses_run : runFz Tryz.prog 100 66 [] = some (.slice 0 75 ((List.range 10).map clD)) := by kernel_rfl
set_option maxRecDepth 100000 in
theorem rClasses_spec (H : Heap) : PCalls Tryz.prog 66 [] H fun d H' => d = .slice 0 75 ((List.range 10).map clD) ∧ H' = H :=
  PCalls.liftG (runFz_spec mixedO rclasses_run) (fun d hd => by cases hd) (pure_of 20 _ (by kernel_rfl)) H
@[simp] theorem rzd_cl : zeroD Tryz.prog 75 = some (cellsD (clD 10)) := by kernel_rfl
@[simp] theorem rze_cl : zeroElem Tryz.prog 75 = some (clD 10) := by kernel_rfl
attribute [local simp] Heap.new_ne Heap.put_ne fillD
set_option maxHeartbeats 4000000 in
set_option maxRecDepth 100000 in
theorem rFindClass_local (s : By) (hs : s.length ≤ 100000) : PCalls Tryz.prog 41 [sD s] (noHeap noG) fun d _ => d = .tup [clD (fcls s), .val (.bool (decide (fcls s < 10)))] := by
  refine PCalls.of_pwp Tryz.call41 Tryz.func41 rfl (by simp [Tryz.ntmps41]) ?_
  rw [Tryz.ntmps41]
  refine W2 ?_
  refine PCalls.mono (rClasses_spec _) ?_
  intro d3 H3 hd3
  rw [hd3.1, hd3.2]
  clear hd3
  try simp [*]
  refine W2 ?_
  refine PCalls.mono (rLower_spec s hs _) ?_
  intro d3 H3 hd3
  rw [hd3.1, hd3.2]
  clear hd3
  try simp [*]
  refine W2 ?_
  refine pwp_loop (fun m st => ∃ k, k ≤ 10 ∧ m = 10 - k ∧ st.env.n = 38 ∧ st.df = [] ∧ st.env.get 0 = sD s ∧ st.env.get 2 = .ptr 0 0 ∧ st.env.get 5 = sD (lowL s) ∧ st.env.get 4 = .slice 0 75 ((List.range 10).map clD) ∧
    st.env.get 6 = .val (.int .i64 k) ∧ 0 < st.H.nx ∧ st.H.get 0 = some (.cells (cellsD (clD 10))) ∧ ∀ j, j < k → hit s j = false) 10 ?_ ?_
  · refine ⟨0, by omega, by omega, by simp, rfl, by simp, by simp, by simp, by simp, by simp, Nat.zero_lt_succ _, Heap.new_same _ _, fun j hj => by omega⟩
  · rintro m ⟨E, H, df⟩ ⟨k, hk, rfl, en, edf, e0, e2, e5, e4, e6, eN, eH, eP⟩
    simp only at en edf e0 e2 e4 e5 e6 eN eH
    subst edf
    have hL10 : ((List.range 10).map clD).length = 10 := by simp
    by_cases h : k < 10
    · have hki : (k : Int) < 10 := by omega
      have hL : ((List.range 10).map clD)[k]? = some (clD k) := by rw [List.getElem?_map, List.getElem?_range h]; rfl
      have hge := get_of hL
      have hns := nm_small k
      have hgd : ((List.range 10).map clD).getD k .undef = clD k := by rw [List.getD, hL]; rfl
      generalize (List.range 10).map clD = L at *
      have hn0 : (0 : Nat) ≠ H.nx := by omega
      have hw := wrapSucc k (by omega)
      by_cases h1 : lowL s = lowL (nm k)
      · refine W2 ?_
        refine PCalls.mono (rLower_spec (nm k) hns _) ?_
        intro d3 H3 hd3
        rw [hd3.1, hd3.2]
        clear hd3
        try simp [*]
        try simp [*]
        refine W2 ?_
        have hf : fcls s = k := fcls_of h (by simp [hit, h1]) eP
        rw [hf]
        simp [*]
        try rfl
      · by_cases h2 : s = od k
        · subst h2
          refine W2 ?_
          refine PCalls.mono (rLower_spec (nm k) hns _) ?_
          intro d3 H3 hd3
          rw [hd3.1, hd3.2]
          clear hd3
          try simp [*]
          try simp [*]
          refine W2 ?_
          have hf : fcls (od k) = k := fcls_of h (by simp [hit]) eP
          rw [hf]
          simp [*]
          try rfl
        · refine W2 ?_
          refine PCalls.mono (rLower_spec (nm k) hns _) ?_
          intro d3 H3 hd3
          rw [hd3.1, hd3.2]
          clear hd3
          try simp [*]
          try simp [*]
          refine W2 ?_
          refine ⟨10 - (k + 1), by omega, k + 1, by omega, rfl, ?_⟩
          simp [*]
          intro j hj
          rcases Nat.lt_or_ge j k with q | q
          · exact eP j q
          · have : j = k := by omega
            subst this
            simp [hit, h1, h2]
    · have hks : k = 10 := by omega
      subst hks
      generalize (List.range 10).map clD = L at *
      refine W2 ?_
      rw [fcls_none eP]
      simp [*]
      try rfl
set_option maxRecDepth 100000 in
theorem rFindClass_spec (s : By) (hs : s.length ≤ 100000) (H : Heap) : PCalls Tryz.prog 41 [sD s] H fun d H' => d = .tup [clD (fcls s), .val (.bool (decide (fcls s < 10)))] ∧ H' = H :=
  PCalls.liftG (rFindClass_local s hs) (fun d hd => by simp only [List.mem_cons, List.mem_nil_iff, or_false] at hd; subst hd; exact .val _)
    (.tup _ fun d hd => by simp only [List.mem_cons, List.mem_nil_iff, or_false] at hd; rcases hd with rfl | rfl; exact pure_cl _; exact .val _) H
end Go.Pv
-- ZpvTameA ZpvDrawT
set_option maxRecDepth 100000
namespace Go.Pv
open Go.Proofs
attribute [-simp] eLen UInt8.ofNat_add



/-! ### Attributes by their names -/
def atD (k : Nat) : D := .agg [sD (an k), sD (aa k), sD (ao k), .val (.int .i64 (asy k)), .val (.bool (asi k))]
@[simp] theorem cells_at (k : Nat) : cellsD (atD k) = [sD (an k), sD (aa k), sD (ao k), .val (.int .i64 (asy k)), .val (.bool (asi k))] := rfl
@[simp] theorem okPart_at (k : Nat) : okPart (atD k) = true := rfl
theorem pure_at (k : Nat) : Pure (atD k) := .agg _ fun d hd => by
  simp only [List.mem_cons, List.mem_nil_iff, or_false] at hd
  rcases hd with rfl | rfl | rfl | rfl | rfl <;> exact .val _
def findD (s : By) : D := .tup [atD (fatt s), .val (.bool (decide (fatt s < 20)))]
theorem pure_find (s : By) : Pure (findD s) := .tup _ fun d hd => by
  simp only [List.mem_cons, List.mem_nil_iff, or_false] at hd
  rcases hd with rfl | rfl
  · exact pure_at _
  · exact .val _
theorem pure_s1 (s : By) : ∀ d ∈ [sD s], Pure d := fun d hd => by simp only [List.mem_cons, List.mem_nil_iff, or_false] at hd; subst hd; exact .val _
attribute [local simp] Heap.new_ne Heap.put_ne fillD
theorem attrs_run : runFz Tryz.prog 100 50 [] = some (.slice 0 54 ((List.range 20).map atD)) := by kernel_rfl
theorem Attributes_spec (H : Heap) : PCalls Tryz.prog 50 [] H fun d H' => d = .slice 0 54 ((List.range 20).map atD) ∧ H' = H :=
  PCalls.liftG (runFz_spec mixedO attrs_run) (fun d hd => by cases hd) (pure_of 20 _ (by kernel_rfl)) H
@[simp] theorem zd_at : zeroD Tryz.prog 54 = some (cellsD (atD 20)) := by kernel_rfl
@[simp] theorem ze_at : zeroElem Tryz.prog 54 = some (atD 20) := by kernel_rfl
set_option maxHeartbeats 8000000 in
theorem Find_local (s : By) (hs : s.length ≤ 100000) : PCalls Tryz.prog 22 [sD s] (noHeap noG) fun d _ => d = findD s := by
  unfold findD
  refine PCalls.of_pwp Tryz.call22 Tryz.func22 rfl (by simp [Tryz.ntmps22]) ?_
  rw [Tryz.ntmps22]
  refine W2 ?_
  refine PCalls.mono (Lower_spec s hs _) ?_
  intro d3 H3 hd3
  rw [hd3.1, hd3.2]
  clear hd3
  try simp [*]
  refine W2 ?_
  refine PCalls.mono (Attributes_spec _) ?_
  intro d3 H3 hd3
  rw [hd3.1, hd3.2]
  clear hd3
  try simp [*]
  refine W2 ?_
  have kdef : Hold (∀ k, hitA s k = (decide (lowL s = lowL (an k)) || (!(lowL s).isEmpty && decide (lowL s = lowL (aa k))) || decide (s = ao k))) := ⟨fun k => rfl⟩
  obtain ⟨ls, hls⟩ : ∃ x, lowL s = x := ⟨_, rfl⟩
  rw [hls] at kdef ⊢
  clear hls
  refine pwp_loop (fun m st => ∃ k, k ≤ 20 ∧ m = 20 - k ∧ st.env.n = 40 ∧ st.df = [] ∧ st.env.get 0 = sD s ∧ st.env.get 2 = .ptr 0 0 ∧ st.env.get 4 = sD ls ∧ st.env.get 9 = .slice 0 54 ((List.range 20).map atD) ∧ st.env.get 10 = .val (.int .i64 20) ∧ st.env.get 11 = .val (.int .i64 k) ∧ 0 < st.H.nx ∧ st.H.get 0 = some (.cells (cellsD (atD 20))) ∧ Hold (∀ j, j < k → hitA s j = false)) 20 ⟨0, by omega, by omega, by simp, rfl, by simp, by simp, by simp, by simp, by simp, by simp, Nat.zero_lt_succ _, Heap.new_same _ _, ⟨fun j hj => by omega⟩⟩ ?_
  rintro m ⟨E, H, df⟩ ⟨k, hk, rfl, en, edf, e0, e2, e4, e9, e10, e11, eN, eH, eP⟩
  simp only at en e0 e2 e4 e9 e10 e11 eN eH edf
  subst edf
  have hL20 : ((List.range 20).map atD).length = 20 := by simp
  by_cases h : k < 20
  · have hki : (k : Int) < 20 := by omega
    have hL : ((List.range 20).map atD)[k]? = some (atD k) := by rw [List.getElem?_map, List.getElem?_range h]; rfl
    have hge := get_of hL
    have hgd : ((List.range 20).map atD).getD k .undef = atD k := by rw [List.getD, hL]; rfl
    generalize (List.range 20).map atD = L at *
    have hn0 : (0 : Nat) ≠ H.nx := by omega
    have hw := wrapSucc k (by omega)
    have hdef := kdef.out k
    obtain ⟨l1, hl1⟩ : ∃ x, lowL (an k) = x := ⟨_, rfl⟩
    obtain ⟨l2, hl2⟩ : ∃ x, lowL (aa k) = x := ⟨_, rfl⟩
    have c1 := Lower_spec (an k) (an_small k)
    have c2 := Lower_spec (aa k) (aa_small k)
    rw [hl1] at hdef c1
    rw [hl2] at hdef c2
    clear hl1 hl2 kdef
    by_cases h1 : ls = l1
    · have hh : Hold (hitA s k = true) := ⟨by rw [hdef]; simp [h1]⟩
      subst h1
      clear hdef
      refine W2 ?_
      refine PCalls.mono (c1 _) ?_
      intro d3 H3 hd3
      rw [hd3.1, hd3.2]
      clear hd3
      try simp [*]
      try simp [*]
      refine W2 ?_
      have hf : fatt s = k := fatt_of h (by exact hh.out) eP.out
      rw [hf]
      simp [*]
      try rfl
    · have h1' : ¬ l1 = ls := fun q => h1 q.symm
      by_cases h2 : ls = []
      · subst h2
        by_cases h4 : s = ao k
        · have hh : Hold (hitA s k = true) := ⟨by rw [hdef]; simp [← h4]⟩
          clear hdef
          refine W2 ?_
          refine PCalls.mono (c1 _) ?_
          intro d3 H3 hd3
          rw [hd3.1, hd3.2]
          clear hd3
          try simp [*]
          try simp [*]
          refine W2 ?_
          have hf : fatt s = k := fatt_of h (by exact hh.out) eP.out
          rw [hf]
          simp [*]
          try rfl
        · have hh : Hold (hitA s k = false) := ⟨by rw [hdef]; simp [h4, h1, h1']⟩
          clear hdef
          refine W2 ?_
          refine PCalls.mono (c1 _) ?_
          intro d3 H3 hd3
          rw [hd3.1, hd3.2]
          clear hd3
          try simp [*]
          try simp [*]
          refine W2 ?_
          refine ⟨20 - (k + 1), by omega, k + 1, by omega, rfl, ?_⟩
          simp [*]
          refine ⟨fun j hj => ?_⟩
          rcases Nat.lt_or_ge j k with q | q
          · exact eP.out j q
          · have : j = k := by omega
            subst this
            exact hh.out
      · by_cases h3 : ls = l2
        · have hh : Hold (hitA s k = true) := ⟨by rw [hdef]; simp [h3, h2]; exact .inl (.inr (fun q => h2 (h3.trans q)))⟩
          subst h3
          clear hdef
          refine W2 ?_
          refine PCalls.mono (c1 _) ?_
          intro d3 H3 hd3
          rw [hd3.1, hd3.2]
          clear hd3
          try simp [*]
          try simp [*]
          refine W2 ?_
          refine PCalls.mono (c2 _) ?_
          intro d3 H3 hd3
          rw [hd3.1, hd3.2]
          clear hd3
          try simp [*]
          try simp [*]
          refine W2 ?_
          have hf : fatt s = k := fatt_of h (by exact hh.out) eP.out
          rw [hf]
          simp [*]
          try rfl
        · by_cases h4 : s = ao k
          · have hh : Hold (hitA s k = true) := ⟨by rw [hdef]; simp [← h4]⟩
            clear hdef
            refine W2 ?_
            refine PCalls.mono (c1 _) ?_
            intro d3 H3 hd3
            rw [hd3.1, hd3.2]
            clear hd3
            try simp [*]
            try simp [*]
            refine W2 ?_
            refine PCalls.mono (c2 _) ?_
            intro d3 H3 hd3
            rw [hd3.1, hd3.2]
            clear hd3
            try simp [*]
            try simp [*]
            refine W2 ?_
            have hf : fatt s = k := fatt_of h (by exact hh.out) eP.out
            rw [hf]
            simp [*]
            try rfl
          · have hh : Hold (hitA s k = false) := ⟨by rw [hdef]; simp [h4, h1, h3]⟩
            clear hdef
            refine W2 ?_
            refine PCalls.mono (c1 _) ?_
            intro d3 H3 hd3
            rw [hd3.1, hd3.2]
            clear hd3
            try simp [*]
            try simp [*]
            refine W2 ?_
            refine PCalls.mono (c2 _) ?_
            intro d3 H3 hd3
            rw [hd3.1, hd3.2]
            clear hd3
            try simp [*]
            try simp [*]
            refine W2 ?_
            refine ⟨20 - (k + 1), by omega, k + 1, by omega, rfl, ?_⟩
            simp [*]
            refine ⟨fun j hj => ?_⟩
            rcases Nat.lt_or_ge j k with q | q
            · exact eP.out j q
            · have : j = k := by omega
              subst this
              exact hh.out
  · have hks : k = 20 := by omega
    subst hks
    generalize (List.range 20).map atD = L at *
    refine W2 ?_
    rw [fatt_none eP.out]
    simp [*]
    try rfl
theorem Find_spec (s : By) (hs : s.length ≤ 100000) (H : Heap) : PCalls Tryz.prog 22 [sD s] H fun d H' => d = findD s ∧ H' = H :=
  PCalls.liftG (Find_local s hs) (pure_s1 s) (pure_find s) H
theorem rattrs_run : runFz Tryz.prog 100 30 [] = some (.slice 0 45 ((List.range 20).map atD)) := by kernel_rfl
theorem rAttributes_spec (H : Heap) : PCalls Tryz.prog 30 [] H fun d H' => d = .slice 0 45 ((List.range 20).map atD) ∧ H' = H :=
  PCalls.liftG (runFz_spec mixedO rattrs_run) (fun d hd => by cases hd) (pure_of 20 _ (by kernel_rfl)) H
@[simp] theorem rzd_at : zeroD Tryz.prog 45 = some (cellsD (atD 20)) := by kernel_rfl
@[simp] theorem rze_at : zeroElem Tryz.prog 45 = some (atD 20) := by kernel_rfl
set_option maxHeartbeats 8000000 in
theorem rFind_local (s : By) (hs : s.length ≤ 100000) : PCalls Tryz.prog 13 [sD s] (noHeap noG) fun d _ => d = findD s := by
  unfold findD
  refine PCalls.of_pwp Tryz.call13 Tryz.func13 rfl (by simp [Tryz.ntmps13]) ?_
  rw [Tryz.ntmps13]
  refine W2 ?_
  refine PCalls.mono (rAttributes_spec _) ?_
  intro d3 H3 hd3
  rw [hd3.1, hd3.2]
  clear hd3
  try simp [*]
  refine W2 ?_
  refine PCalls.mono (rLower_spec s hs _) ?_
  intro d3 H3 hd3
  rw [hd3.1, hd3.2]
  clear hd3
  try simp [*]
  refine W2 ?_
  have kdef : Hold (∀ k, hitA s k = (decide (lowL s = lowL (an k)) || (!(lowL s).isEmpty && decide (lowL s = lowL (aa k))) || decide (s = ao k))) := ⟨fun k => rfl⟩
  obtain ⟨ls, hls⟩ : ∃ x, lowL s = x := ⟨_, rfl⟩
  rw [hls] at kdef ⊢
  clear hls
  refine pwp_loop (fun m st => ∃ k, k ≤ 20 ∧ m = 20 - k ∧ st.env.n = 52 ∧ st.df = [] ∧ st.env.get 0 = sD s ∧ st.env.get 2 = .ptr 0 0 ∧ st.env.get 5 = sD ls ∧ st.env.get 4 = .slice 0 45 ((List.range 20).map atD) ∧ st.env.get 6 = .val (.int .i64 k) ∧ 0 < st.H.nx ∧ st.H.get 0 = some (.cells (cellsD (atD 20))) ∧ Hold (∀ j, j < k → hitA s j = false)) 20 ⟨0, by omega, by omega, by simp, rfl, by simp, by simp, by simp, by simp, by simp, Nat.zero_lt_succ _, Heap.new_same _ _, ⟨fun j hj => by omega⟩⟩ ?_
  rintro m ⟨E, H, df⟩ ⟨k, hk, rfl, en, edf, e0, e2, e5, e4, e6, eN, eH, eP⟩
  simp only at en e0 e2 e5 e4 e6 eN eH edf
  subst edf
  have hL20 : ((List.range 20).map atD).length = 20 := by simp
  by_cases h : k < 20
  · have hki : (k : Int) < 20 := by omega
    have hL : ((List.range 20).map atD)[k]? = some (atD k) := by rw [List.getElem?_map, List.getElem?_range h]; rfl
    have hge := get_of hL
    have hgd : ((List.range 20).map atD).getD k .undef = atD k := by rw [List.getD, hL]; rfl
    generalize (List.range 20).map atD = L at *
    have hn0 : (0 : Nat) ≠ H.nx := by omega
    have hw := wrapSucc k (by omega)
    have hdef := kdef.out k
    obtain ⟨l1, hl1⟩ : ∃ x, lowL (an k) = x := ⟨_, rfl⟩
    obtain ⟨l2, hl2⟩ : ∃ x, lowL (aa k) = x := ⟨_, rfl⟩
    have c1 := rLower_spec (an k) (an_small k)
    have c2 := rLower_spec (aa k) (aa_small k)
    rw [hl1] at hdef c1
    rw [hl2] at hdef c2
    clear hl1 hl2 kdef
    by_cases h1 : ls = l1
    · have hh : Hold (hitA s k = true) := ⟨by rw [hdef]; simp [h1]⟩
      subst h1
      clear hdef
      refine W2 ?_
      refine PCalls.mono (c1 _) ?_
      intro d3 H3 hd3
      rw [hd3.1, hd3.2]
      clear hd3
      try simp [*]
      try simp [*]
      refine W2 ?_
      have hf : fatt s = k := fatt_of h (by exact hh.out) eP.out
      rw [hf]
      simp [*]
      try rfl
    · have h1' : ¬ l1 = ls := fun q => h1 q.symm
      by_cases h2 : ls = []
      · subst h2
        by_cases h5 : l2 = []
        · subst h5
          by_cases h4 : s = ao k
          · have hh : Hold (hitA s k = true) := ⟨by rw [hdef]; simp [← h4]⟩
            clear hdef
            refine W2 ?_
            refine PCalls.mono (c1 _) ?_
            intro d3 H3 hd3
            rw [hd3.1, hd3.2]
            clear hd3
            try simp [*]
            try simp [*]
            refine W2 ?_
            refine PCalls.mono (c2 _) ?_
            intro d3 H3 hd3
            rw [hd3.1, hd3.2]
            clear hd3
            try simp [*]
            try simp [*]
            refine W2 ?_
            have hf : fatt s = k := fatt_of h (by exact hh.out) eP.out
            rw [hf]
            simp [*]
            try rfl
          · have hh : Hold (hitA s k = false) := ⟨by rw [hdef]; simp [h4, h1, h1']⟩
            clear hdef
            refine W2 ?_
            refine PCalls.mono (c1 _) ?_
            intro d3 H3 hd3
            rw [hd3.1, hd3.2]
            clear hd3
            try simp [*]
            try simp [*]
            refine W2 ?_
            refine PCalls.mono (c2 _) ?_
            intro d3 H3 hd3
            rw [hd3.1, hd3.2]
            clear hd3
            try simp [*]
            try simp [*]
            refine W2 ?_
            refine ⟨20 - (k + 1), by omega, k + 1, by omega, rfl, ?_⟩
            simp [*]
            refine ⟨fun j hj => ?_⟩
            rcases Nat.lt_or_ge j k with q | q
            · exact eP.out j q
            · have : j = k := by omega
              subst this
              exact hh.out
        · have h5' : ¬ [] = l2 := fun q => h5 q.symm
          by_cases h4 : s = ao k
          · have hh : Hold (hitA s k = true) := ⟨by rw [hdef]; simp [← h4]⟩
            clear hdef
            refine W2 ?_
            refine PCalls.mono (c1 _) ?_
            intro d3 H3 hd3
            rw [hd3.1, hd3.2]
            clear hd3
            try simp [*]
            try simp [*]
            refine W2 ?_
            refine PCalls.mono (c2 _) ?_
            intro d3 H3 hd3
            rw [hd3.1, hd3.2]
            clear hd3
            try simp [*]
            try simp [*]
            refine W2 ?_
            have hf : fatt s = k := fatt_of h (by exact hh.out) eP.out
            rw [hf]
            simp [*]
            try rfl
          · have hh : Hold (hitA s k = false) := ⟨by rw [hdef]; simp [h4, h1, h1']⟩
            clear hdef
            refine W2 ?_
            refine PCalls.mono (c1 _) ?_
            intro d3 H3 hd3
            rw [hd3.1, hd3.2]
            clear hd3
            try simp [*]
            try simp [*]
            refine W2 ?_
            refine PCalls.mono (c2 _) ?_
            intro d3 H3 hd3
            rw [hd3.1, hd3.2]
            clear hd3
            try simp [*]
            try simp [*]
            refine W2 ?_
            refine ⟨20 - (k + 1), by omega, k + 1, by omega, rfl, ?_⟩
            simp [*]
            refine ⟨fun j hj => ?_⟩
            rcases Nat.lt_or_ge j k with q | q
            · exact eP.out j q
            · have : j = k := by omega
              subst this
              exact hh.out
      · by_cases h3 : ls = l2
        · have hh : Hold (hitA s k = true) := ⟨by rw [hdef]; simp [h3, h2]; exact .inl (.inr (fun q => h2 (h3.trans q)))⟩
          subst h3
          clear hdef
          refine W2 ?_
          refine PCalls.mono (c1 _) ?_
          intro d3 H3 hd3
          rw [hd3.1, hd3.2]
          clear hd3
          try simp [*]
          try simp [*]
          refine W2 ?_
          refine PCalls.mono (c2 _) ?_
          intro d3 H3 hd3
          rw [hd3.1, hd3.2]
          clear hd3
          try simp [*]
          try simp [*]
          refine W2 ?_
          have hf : fatt s = k := fatt_of h (by exact hh.out) eP.out
          rw [hf]
          simp [*]
          try rfl
        · by_cases h4 : s = ao k
          · have hh : Hold (hitA s k = true) := ⟨by rw [hdef]; simp [← h4]⟩
            clear hdef
            refine W2 ?_
            refine PCalls.mono (c1 _) ?_
            intro d3 H3 hd3
            rw [hd3.1, hd3.2]
            clear hd3
            try simp [*]
            try simp [*]
            refine W2 ?_
            refine PCalls.mono (c2 _) ?_
            intro d3 H3 hd3
            rw [hd3.1, hd3.2]
            clear hd3
            try simp [*]
            try simp [*]
            refine W2 ?_
            have hf : fatt s = k := fatt_of h (by exact hh.out) eP.out
            rw [hf]
            simp [*]
            try rfl
          · have hh : Hold (hitA s k = false) := ⟨by rw [hdef]; simp [h4, h1, h3]⟩
            clear hdef
            refine W2 ?_
            refine PCalls.mono (c1 _) ?_
            intro d3 H3 hd3
            rw [hd3.1, hd3.2]
            clear hd3
            try simp [*]
            try simp [*]
            refine W2 ?_
            refine PCalls.mono (c2 _) ?_
            intro d3 H3 hd3
            rw [hd3.1, hd3.2]
            clear hd3
            try simp [*]
            try simp [*]
            refine W2 ?_
            refine ⟨20 - (k + 1), by omega, k + 1, by omega, rfl, ?_⟩
            simp [*]
            refine ⟨fun j hj => ?_⟩
            rcases Nat.lt_or_ge j k with q | q
            · exact eP.out j q
            · have : j = k := by omega
              subst this
              exact hh.out
  · have hks : k = 20 := by omega
    subst hks
    generalize (List.range 20).map atD = L at *
    refine W2 ?_
    rw [fatt_none eP.out]
    simp [*]
    try rfl
theorem rFind_spec (s : By) (hs : s.length ≤ 100000) (H : Heap) : PCalls Tryz.prog 13 [sD s] H fun d H' => d = findD s ∧ H' = H :=
  PCalls.liftG (rFind_local s hs) (pure_s1 s) (pure_find s) H
end Go.Pv
-- ZpvTameA ZpvDrawT
namespace Go.Pv
open Go.Proofs
attribute [-simp] eLen UInt8.ofNat_add



/-! ### The order of values; Key, Check, Equal -/
def cmpL (a b : By) : Int := Lib.compareBytes a b
set_option maxRecDepth 100000 in
theorem cmpstring_spec (a b : By) (H : Heap) : PCalls Tryz.prog 85 [sD a, sD b] H fun d H' => d = .val (.int .i64 (cmpL a b)) ∧ H' = H :=
  prOf_sound (x := (85, .compare)) ⟨_, Tryz.func85, by kernel_rfl, by kernel_rfl, by kernel_rfl, by kernel_rfl⟩ rfl
set_option maxHeartbeats 4000000 in
set_option maxRecDepth 100000 in
theorem CompareString_spec (a b : By) (H : Heap) : PCalls Tryz.prog 55 [sD a, sD b] H fun d H' => d = .val (.int .i64 (cmpL a b)) ∧ H' = H := by
  refine PCalls.of_pwp Tryz.call55 Tryz.func55 rfl (by simp [Tryz.ntmps55]) ?_
  rw [Tryz.ntmps55]
  refine W2 ?_
  refine PCalls.mono (cmpstring_spec a b _) ?_
  intro d3 H3 hd3
  rw [hd3.1, hd3.2]
  clear hd3
  try simp [*]
  try simp [*]
  refine W2 ?_
  simp [*]
set_option maxHeartbeats 4000000 in
set_option maxRecDepth 100000 in
theorem Compare_spec (a b : By) (H : Heap) : PCalls Tryz.prog 29 [sD a, sD b] H fun d H' => d = .val (.int .i64 (cmpL a b)) ∧ H' = H := by
  refine PCalls.of_pwp Tryz.call29 Tryz.func29 rfl (by simp [Tryz.ntmps29]) ?_
  rw [Tryz.ntmps29]
  refine W2 ?_
  refine PCalls.mono (CompareString_spec a b _) ?_
  intro d3 H3 hd3
  rw [hd3.1, hd3.2]
  clear hd3
  try simp [*]
  try simp [*]
  refine W2 ?_
  simp [*]
attribute [local simp] recv optK
set_option maxHeartbeats 4000000 in
set_option maxRecDepth 100000 in
theorem Key_spec (s : Int) (l : By) (hl : l.length ≤ 100000) (H : Heap) (hG : MaxIs H 0) : PCalls Tryz.prog 23 [.val (.int .i64 s), sD l] H fun d H' => d = optK ((holdM s l).getD []) (holdM s l).isSome ∧ H' = H := by
  refine PCalls.liftM (fun m => ?_) (fun d hd => by
    simp only [List.mem_cons, List.mem_nil_iff, or_false] at hd
    rcases hd with rfl | rfl <;> exact .val _) (pure_optK _ _) hG
  refine PCalls.of_pwp Tryz.call23 Tryz.func23 rfl (by simp [Tryz.ntmps23]) ?_
  rw [Tryz.ntmps23]
  refine W2 ?_
  refine PCalls.mono (hold_spec s l hl _ (by exact maxG_is _ m rfl)) ?_
  intro d3 H3 hd3
  rw [hd3.1, hd3.2]
  clear hd3
  try simp [*]
  simp only [heldD]
  try simp [*]
  refine W2 ?_
  simp [*]
end Go.Pv
-- ZpvTameA ZpvDrawT
set_option maxRecDepth 100000
namespace Go.Pv
open Go.Proofs
attribute [-simp] eLen UInt8.ofNat_add



attribute [local simp] Heap.new_ne Heap.put_ne
/-! ### Searches in rows of levels, and of pairs -/
@[simp] theorem cells_lv (x : Lv) : cellsD (lvD x) = [lvD x] := rfl
@[simp] theorem cells_pair (p : By × By) : cellsD (pairD p) = [sD p.1, sD p.2] := rfl
@[simp] theorem fk_pair : flatKinds Tryz.prog 35 = some [.s, .s] := by kernel_rfl
theorem any_first {α : Type} (q : α → Bool) : ∀ (l : List α) (k : Nat) (x : α), l[k]? = some x → q x = true → l.any q = true := fun l k x h hq => List.any_eq_true.2 ⟨x, List.mem_of_getElem? h, hq⟩
theorem any_none {α : Type} {q : α → Bool} {l : List α} (h : ∀ x ∈ l.take l.length, q x = false) : l.any q = false := by
  rw [List.take_length] at h
  rw [List.any_eq_false]
  intro x hx
  rw [h x hx]; decide
theorem take_all_snoc {α : Type} {q : α → Bool} {l : List α} {k : Nat} {x : α} (hx : l[k]? = some x) (h : ∀ y ∈ l.take k, q y = false) (hq : q x = false) : ∀ y ∈ l.take (k + 1), q y = false := fun y hy => by
  rw [List.take_add_one, hx] at hy
  rcases List.mem_append.1 hy with h1 | h1
  · exact h y h1
  · simp at h1; subst h1; exact hq
def foundD (b : Bool) (d : D) : Prop := ∃ i : Int, d = .val (.int .i64 i) ∧ decide (0 ≤ i) = b
set_option maxHeartbeats 4000000 in
theorem idxLev_spec (f : Nat) (q : Lv → Bool) (hf : ∀ (x : Lv) (H : Heap), PCalls Tryz.prog f [lvD x] H fun d H' => d = .val (.bool (q x)) ∧ H' = H) (g e : Nat) (n : List Lv) (he : e = 37 ∨ n = []) (hn : n.length ≤ 140737488351232) (H : Heap) :
    PCalls Tryz.prog 21 [.slice g e (n.map lvD), .val (.func (.func f) #[] #[])] H fun d H' => foundD (n.any q) d ∧ H' = H := by
  refine PCalls.of_pwp Tryz.call21 Tryz.func21 rfl (by simp [Tryz.ntmps21]) ?_
  rw [Tryz.ntmps21]
  have lN : (n.map lvD).length = n.length := by simp
  have gN := fun k x (h : n[k]? = some x) => (show (n.map lvD)[k]? = some (lvD x) by rw [List.getElem?_map, h]; rfl)
  have kg := Hold.mk gN
  clear gN
  obtain ⟨X, hX⟩ : ∃ X, n.map lvD = X := ⟨_, rfl⟩
  rw [hX] at lN kg ⊢
  clear hX
  refine W2 ?_
  refine pwp_for (n.length) (fun k st => st.env.n = 19 ∧ st.df = [] ∧ st.H = H ∧ st.env.get 0 = .slice g e X ∧ st.env.get 1 = .val (.func (.func f) #[] #[]) ∧ st.env.get 7 = .val (.int .i64 (n.length : Nat)) ∧ st.env.get 8 = .val (.int .i64 (k : Nat)) ∧ (Hold (∀ x ∈ n.take k, q x = false))) ⟨by first | (simp; done) | (simp [*]; done), rfl, by first | rfl | simp, by first | (simp; done) | (simp [*]; done), by first | (simp; done) | (simp [*]; done), by first | (simp; done) | (simp [*]; done), by first | (simp; done) | (simp [*]; done), by first | done | exact ⟨by simp⟩ | simp⟩ ?_ ?_
  · rintro k ⟨E, Hx, df⟩ hk ⟨en, edf, eH, e0, e1, e7, e8, eP⟩
    simp only at en edf eH e0 e1 e7 e8
    subst edf; replace eH := eH.symm; subst eH
    have hki : (k : Int) < ((n.length : Nat) : Int) := by omega
    have hkw := wrapSucc k (by omega)
    have hz : e = 37 := by rcases he with h | h; exact h; subst h; simp at hk
    subst hz
    obtain ⟨x, hx⟩ : ∃ x, n[k]? = some x := ⟨_, List.getElem?_eq_getElem hk⟩
    have x1 := kg.out k x hx
    have x2 : X.getD k .undef = lvD x := by rw [List.getD, x1]; rfl
    have x3 := get_of x1
    have hfx := hf x
    have hyes : Hold (q x = true → n.any q = true) := ⟨any_first q n k x hx⟩
    have hno : Hold (q x = false → ∀ y ∈ n.take (k + 1), q y = false) := ⟨take_all_snoc hx eP.out⟩
    clear hx
    obtain ⟨b, hb⟩ : ∃ b, q x = b := ⟨_, rfl⟩
    rw [hb] at hfx hyes hno
    cases b with
    | true =>
      have ha := hyes.out rfl
      have hr : Hold (foundD (n.any q) (.val (.int .i64 (k : Nat)))) := ⟨⟨_, rfl, by rw [ha]; simp⟩⟩
      clear ha hyes hno
      refine W2 ?_
      refine PCalls.mono (hfx _) ?_
      intro d3 H3 hd3
      rw [hd3.1, hd3.2]
      clear hd3
      try simp [*]
      try simp [*]
      refine W2 ?_
      simp [*]
      exact hr.out
    | false =>
      have hno2 := Hold.mk (hno.out rfl)
      clear hyes hno
      refine W2 ?_
      refine PCalls.mono (hfx _) ?_
      intro d3 H3 hd3
      rw [hd3.1, hd3.2]
      clear hd3
      try simp [*]
      try simp [*]
      refine W2 ?_
      simp [*]
  · rintro ⟨E, Hx, df⟩ ⟨en, edf, eH, e0, e1, e7, e8, eP⟩
    simp only at en edf eH e0 e1 e7 e8
    subst edf; replace eH := eH.symm; subst eH
    have hr : Hold (foundD (n.any q) (.val (.int .i64 (-1)))) := ⟨⟨_, rfl, by rw [any_none eP.out]; decide⟩⟩
    refine W2 ?_
    simp [*]
    exact hr.out
set_option maxHeartbeats 4000000 in
theorem conLev_spec (f : Nat) (q : Lv → Bool) (hf : ∀ (x : Lv) (H : Heap), PCalls Tryz.prog f [lvD x] H fun d H' => d = .val (.bool (q x)) ∧ H' = H) (g e : Nat) (n : List Lv) (he : e = 37 ∨ n = []) (hn : n.length ≤ 140737488351232) (H : Heap) :
    PCalls Tryz.prog 10 [.slice g e (n.map lvD), .val (.func (.func f) #[] #[])] H fun d H' => d = .val (.bool (n.any q)) ∧ H' = H := by
  have hi := idxLev_spec f q hf g e n he hn
  obtain ⟨X, hX⟩ : ∃ X, n.map lvD = X := ⟨_, rfl⟩
  rw [hX] at hi ⊢
  clear hX
  refine PCalls.of_pwp Tryz.call10 Tryz.func10 rfl (by simp [Tryz.ntmps10]) ?_
  rw [Tryz.ntmps10]
  refine W2 ?_
  refine PCalls.mono (hi _) ?_
  rintro d H' ⟨⟨i, rfl, h⟩, rfl⟩
  try simp [*]
  refine W2 ?_
  simp [*]
set_option maxHeartbeats 4000000 in
theorem dbig1_spec (x : Lv) (H : Heap) : PCalls Tryz.prog 20 [lvD x] H fun d H' => d = .val (.bool (decide (4 < x.l.length))) ∧ H' = H := by
  obtain ⟨g, e, l⟩ := x
  simp only [lvD]
  have hl : (l.map pairD).length = l.length := by simp
  generalize l.map pairD = X at *
  refine PCalls.of_pwp Tryz.call20 Tryz.func20 rfl (by simp [Tryz.ntmps20]) ?_
  rw [Tryz.ntmps20]
  refine W2 ?_
  simp [*]
  try omega
set_option maxHeartbeats 4000000 in
theorem dNormal1_spec (x : Lv) (H : Heap) : PCalls Tryz.prog 11 [lvD x] H fun d H' => d = .val (.bool (decide (x.l.length = 0))) ∧ H' = H := by
  obtain ⟨g, e, l⟩ := x
  simp only [lvD]
  have hl : (l.map pairD).length = l.length := by simp
  generalize l.map pairD = X at *
  refine PCalls.of_pwp Tryz.call11 Tryz.func11 rfl (by simp [Tryz.ntmps11]) ?_
  rw [Tryz.ntmps11]
  refine W2 ?_
  simp [*]
  try omega
def bigM (n : List Lv) : Bool := decide (12 < n.length) || n.any fun x => decide (4 < x.l.length)
set_option maxHeartbeats 4000000 in
theorem dbig_spec (g e : Nat) (n : List Lv) (he : e = 37 ∨ n = []) (hn : n.length ≤ 140737488351232) (H : Heap) :
    PCalls Tryz.prog 9 [.slice g e (n.map lvD)] H fun d H' => d = .val (.bool (bigM n)) ∧ H' = H := by
  have hc := conLev_spec 20 _ dbig1_spec g e n he hn
  have hl : (n.map lvD).length = n.length := by simp
  have hbm : bigM n = (decide (12 < n.length) || n.any fun x => decide (4 < x.l.length)) := rfl
  obtain ⟨b, hb⟩ : ∃ b, (n.any fun x => decide (4 < x.l.length)) = b := ⟨_, rfl⟩
  rw [hb] at hc hbm
  clear hb
  obtain ⟨X, hX⟩ : ∃ X, n.map lvD = X := ⟨_, rfl⟩
  rw [hX] at hc hl ⊢
  clear hX
  refine PCalls.of_pwp Tryz.call9 Tryz.func9 rfl (by simp [Tryz.ntmps9]) ?_
  rw [Tryz.ntmps9]
  by_cases h : 12 < n.length
  · have hi : (12 : Int) < (n.length : Int) := by omega
    have hb : bigM n = true := by rw [hbm]; simp [h]
    clear hbm
    refine W2 ?_
    simp [*]
  · have hi : ¬ (12 : Int) < (n.length : Int) := by omega
    have hb : bigM n = b := by rw [hbm]; simp [h]
    clear hbm
    refine W2 ?_
    refine PCalls.mono (hc _) ?_
    intro d3 H3 hd3
    rw [hd3.1, hd3.2]
    clear hd3
    try simp [*]
    try simp [*]
    refine W2 ?_
    simp [*]
/-- The closure that looks for a pair's type. -/
def cloP (o : By × By) : D := .clo (.func 26) [] [.obj [sD o.1, sD o.2] 0]
theorem pure_cloP (o : By × By) : Pure (cloP o) := .clo _ _ _ (fun d hd => by cases hd) (fun d hd => by
  simp only [List.mem_cons, List.mem_nil_iff, or_false] at hd
  subst hd
  exact .obj _ _ fun d hd => by
    simp only [List.mem_cons, List.mem_nil_iff, or_false] at hd
    rcases hd with rfl | rfl <;> exact .val _)
set_option maxHeartbeats 4000000 in
theorem dnormal1_local (x o : By × By) : PCalls Tryz.prog 26 [pairD x, .obj [sD o.1, sD o.2] 0] (noHeap noG) fun d _ => d = .val (.bool (decide (x.1 = o.1))) := by
  obtain ⟨a, b⟩ := x
  obtain ⟨c, d⟩ := o
  simp only [pairD]
  refine PCalls.of_pwp Tryz.call26 Tryz.func26 rfl (by simp [Tryz.ntmps26]) ?_
  rw [Tryz.ntmps26]
  by_cases h : a = c
  · subst h
    by_cases h2 : b = d
    · subst h2
      refine W2 ?_
      simp [*]
    · refine W2 ?_
      simp [*]
  · refine W2 ?_
    simp [*]
theorem dnormal1_spec (x o : By × By) (H : Heap) : PCalls Tryz.prog 26 [pairD x, .obj [sD o.1, sD o.2] 0] H fun d H' => d = .val (.bool (decide (x.1 = o.1))) ∧ H' = H :=
  PCalls.liftG (dnormal1_local x o) (fun d hd => by
    simp only [List.mem_cons, List.mem_nil_iff, or_false] at hd
    rcases hd with rfl | rfl
    · exact pure_pair _
    · exact .obj _ _ fun d hd => by
        simp only [List.mem_cons, List.mem_nil_iff, or_false] at hd
        rcases hd with rfl | rfl <;> exact .val _) (.val _) H
end Go.Pv
-- ZpvTameA ZpvDrawT
set_option maxRecDepth 100000
namespace Go.Pv
open Go.Proofs
attribute [-simp] eLen UInt8.ofNat_add



attribute [local simp] Heap.new_ne Heap.put_ne
set_option maxHeartbeats 4000000 in
theorem idxPair_spec (o : By × By) (g e : Nat) (n : List (By × By)) (he : e = 35 ∨ n = []) (hn : n.length ≤ 140737488351232) (H : Heap) :
    PCalls Tryz.prog 52 [.slice g e (n.map pairD), cloP o] H fun d H' => foundD (n.any fun x => decide (x.1 = o.1)) d ∧ H' = H := by
  refine PCalls.of_pwp Tryz.call52 Tryz.func52 rfl (by simp [Tryz.ntmps52]) ?_
  rw [Tryz.ntmps52]
  have lN : (n.map pairD).length = n.length := by simp
  have gN := fun k x (h : n[k]? = some x) => (show (n.map pairD)[k]? = some (pairD x) by rw [List.getElem?_map, h]; rfl)
  have kg := Hold.mk gN
  clear gN
  obtain ⟨X, hX⟩ : ∃ X, n.map pairD = X := ⟨_, rfl⟩
  rw [hX] at lN kg ⊢
  clear hX
  have hf := fun x => dnormal1_spec x o
  obtain ⟨q, hq⟩ : ∃ q, (fun x : By × By => decide (x.1 = o.1)) = q := ⟨_, rfl⟩
  have hf2 : ∀ (x : By × By) (H : Heap), PCalls Tryz.prog 26 [pairD x, .obj [sD o.1, sD o.2] 0] H fun d H' => d = .val (.bool (q x)) ∧ H' = H := by
    intro x H; rw [← hq]; exact hf x H
  rw [hq]
  clear hf hq
  unfold cloP
  refine W2 ?_
  refine pwp_for (n.length) (fun k st => st.env.n = 19 ∧ st.df = [] ∧ st.H = H ∧ st.env.get 0 = .slice g e X ∧ st.env.get 1 = .clo (.func 26) [] [.obj [sD o.1, sD o.2] 0] ∧ st.env.get 7 = .val (.int .i64 (n.length : Nat)) ∧ st.env.get 8 = .val (.int .i64 (k : Nat)) ∧ (Hold (∀ x ∈ n.take k, q x = false))) ⟨by first | (simp; done) | (simp [*]; done), rfl, by first | rfl | simp, by first | (simp; done) | (simp [*]; done), by first | (simp; done) | (simp [*]; done), by first | (simp; done) | (simp [*]; done), by first | (simp; done) | (simp [*]; done), by first | done | exact ⟨by simp⟩ | simp⟩ ?_ ?_
  · rintro k ⟨E, Hx, df⟩ hk ⟨en, edf, eH, e0, e1, e7, e8, eP⟩
    simp only at en edf eH e0 e1 e7 e8
    subst edf; replace eH := eH.symm; subst eH
    have hki : (k : Int) < ((n.length : Nat) : Int) := by omega
    have hkw := wrapSucc k (by omega)
    have hz : e = 35 := by rcases he with h | h; exact h; subst h; simp at hk
    subst hz
    obtain ⟨x, hx⟩ : ∃ x, n[k]? = some x := ⟨_, List.getElem?_eq_getElem hk⟩
    have x1 := kg.out k x hx
    have x2 : X.getD k .undef = pairD x := by rw [List.getD, x1]; rfl
    have x3 := get_of x1
    have hfx := hf2 x
    simp only [pairD] at x1 x2 x3 hfx
    have hyes : Hold (q x = true → n.any q = true) := ⟨any_first q n k x hx⟩
    have hno : Hold (q x = false → ∀ y ∈ n.take (k + 1), q y = false) := ⟨take_all_snoc hx eP.out⟩
    clear hx
    obtain ⟨b, hb⟩ : ∃ b, q x = b := ⟨_, rfl⟩
    rw [hb] at hfx hyes hno
    cases b with
    | true =>
      have ha := hyes.out rfl
      have hr : Hold (foundD (n.any q) (.val (.int .i64 (k : Nat)))) := ⟨⟨_, rfl, by rw [ha]; simp⟩⟩
      clear ha hyes hno
      refine W2 ?_
      refine PCalls.mono (hfx _) ?_
      intro d3 H3 hd3
      rw [hd3.1, hd3.2]
      clear hd3
      try simp [*]
      try simp [*]
      refine W2 ?_
      simp [*]
      exact hr.out
    | false =>
      have hno2 := Hold.mk (hno.out rfl)
      clear hyes hno
      refine W2 ?_
      refine PCalls.mono (hfx _) ?_
      intro d3 H3 hd3
      rw [hd3.1, hd3.2]
      clear hd3
      try simp [*]
      try simp [*]
      refine W2 ?_
      simp [*]
      exact ⟨fun a b h => hno2.out (a, b) h⟩
  · rintro ⟨E, Hx, df⟩ ⟨en, edf, eH, e0, e1, e7, e8, eP⟩
    simp only at en edf eH e0 e1 e7 e8
    subst edf; replace eH := eH.symm; subst eH
    have hr : Hold (foundD (n.any q) (.val (.int .i64 (-1)))) := ⟨⟨_, rfl, by rw [any_none eP.out]; decide⟩⟩
    refine W2 ?_
    simp [*]
    exact hr.out
set_option maxHeartbeats 4000000 in
theorem conPair_spec (o : By × By) (g e : Nat) (n : List (By × By)) (he : e = 35 ∨ n = []) (hn : n.length ≤ 140737488351232) (H : Heap) :
    PCalls Tryz.prog 25 [.slice g e (n.map pairD), cloP o] H fun d H' => d = .val (.bool (n.any fun x => decide (x.1 = o.1))) ∧ H' = H := by
  have hi := idxPair_spec o g e n he hn
  obtain ⟨X, hX⟩ : ∃ X, n.map pairD = X := ⟨_, rfl⟩
  rw [hX] at hi ⊢
  clear hX
  obtain ⟨b, hb⟩ : ∃ b, (n.any fun x => decide (x.1 = o.1)) = b := ⟨_, rfl⟩
  rw [hb] at hi ⊢
  clear hb
  obtain ⟨C, hC⟩ : ∃ C, cloP o = C := ⟨_, rfl⟩
  rw [hC] at hi ⊢
  clear hC
  refine PCalls.of_pwp Tryz.call25 Tryz.func25 rfl (by simp [Tryz.ntmps25]) ?_
  rw [Tryz.ntmps25]
  refine W2 ?_
  refine PCalls.mono (hi _) ?_
  rintro d H' ⟨⟨i, rfl, h⟩, rfl⟩
  try simp [*]
  refine W2 ?_
  simp [*]
/-- The same of a row that grows, and a box of the caller's own. -/
theorem conPair_own (o : By × By) {H : Heap} {d0 : D} {i : Nat} {n : List (By × By)} (hG : Grow H d0 35 (n.map pairD)) (hn : n.length ≤ 140737488351232) (hi : H.get i = some (.cells [sD o.1, sD o.2])) :
    PCalls Tryz.prog 25 [d0, .clo (.func 26) [] [.ptr i 0]] H fun d H' => d = .val (.bool (n.any fun x => decide (x.1 = o.1))) ∧ H' = H := by
  obtain ⟨g, e', h1, h2⟩ := frD_at' 35 pairD n
  refine PCalls.aside (k := 4) (ds' := [frD 35 (n.map pairD), cloP o]) ?_ (R := fun d => d = .val (.bool (n.any fun x => decide (x.1 = o.1)))) ?_ (fun d hd => by rw [hd]; rfl)
  · have f1 := Grow.fz (P := Tryz.prog) hG (n := 3) (fzi_map (fz_pairs 1 H) n)
    have f2 : fz Tryz.prog 4 H (.clo (.func 26) [] [.ptr i 0]) = some (cloP o) := by
      simp [fz, mapO, hi, cloP, sD]
    simp [mapO, f1, f2]
  · rw [h1]
    exact (conPair_spec o g e' n (h2.imp id id) hn _).mono fun d H' q => q.1
set_option maxHeartbeats 4000000 in
theorem dnormal2_local (x y : By × By) (hx : x.1.length ≤ 100000) (hy : y.1.length ≤ 100000) : PCalls Tryz.prog 28 [pairD x, pairD y] (noHeap noG) fun d _ => d = .val (.int .i64 (cmpL (x.1 ++ [61]) (y.1 ++ [61]))) := by
  obtain ⟨a, b⟩ := x
  obtain ⟨c, d⟩ := y
  simp only [pairD] at *
  refine PCalls.of_pwp Tryz.call28 Tryz.func28 rfl (by simp [Tryz.ntmps28]) ?_
  rw [Tryz.ntmps28]
  refine W2 ?_
  refine PCalls.mono (Compare_spec (a ++ [61]) (c ++ [61]) _) ?_
  intro d3 H3 hd3
  rw [hd3.1, hd3.2]
  clear hd3
  try simp [*]
  try simp [*]
  refine W2 ?_
  simp [*]
theorem dnormal2_spec (x y : By × By) (hx : x.1.length ≤ 100000) (hy : y.1.length ≤ 100000) (H : Heap) : PCalls Tryz.prog 28 [pairD x, pairD y] H fun d H' => d = .val (.int .i64 (cmpL (x.1 ++ [61]) (y.1 ++ [61]))) ∧ H' = H :=
  PCalls.liftG (dnormal2_local x y hx hy) (fun d hd => by
    simp only [List.mem_cons, List.mem_nil_iff, or_false] at hd
    rcases hd with rfl | rfl <;> exact pure_pair _) (.val _) H
end Go.Pv
