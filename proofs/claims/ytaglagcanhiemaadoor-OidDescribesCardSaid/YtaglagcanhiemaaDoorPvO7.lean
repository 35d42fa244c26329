/- A part of the proof: functions of the program, walked, or what operations come to. -/
import Derived.Test.YtaglagcanhiemaaDoorPvO6
-- ZpvTameA ZpvDrawT
namespace Go.Pv
open Go.Proofs
attribute [-simp] eLen UInt8.ofNat_add

/-! ### Parts, as the document's answer finds them -/
theorem set_last {α : Type} (l : List α) (h : l ≠ []) (x : α) : l.set (l.length - 1) x = l.dropLast ++ [x] := by
  have h1 : l = l.dropLast ++ [l.getLast h] := (List.dropLast_concat_getLast h).symm
  have h2 : l.length - 1 = l.dropLast.length := by simp
  rw [h2]
  conv => lhs; rw [h1]
  have h3 : (l.dropLast ++ [l.getLast h]).dropLast.length = l.dropLast.length := by simp
  rw [h3, List.set_append_right _ _ (Nat.le_refl _)]
  simp
set_option maxHeartbeats 4000000 in
set_option maxRecDepth 100000 in
theorem rparts_local (l : By) (c : UInt8) (hl : l.length ≤ 100000) : PCalls Tryd.prog 36 [sD l, .val (.int .u8 (c.toNat : Nat))] (noHeap noG) fun d H' => fz Tryd.prog 3 H' d = some (.slice 0 9 ((splitB c l).map sD)) := by
  refine PCalls.of_pwp Tryd.call36 Tryd.func36 rfl (by simp [Tryd.ntmps36]) ?_
  rw [Tryd.ntmps36]
  repeat (first | with_reducible refine seq_k fun K hK => ?_ | (with_reducible refine region_k fun K hK => ?_; simp [*]) | (with_reducible refine region_drawT_k mixedO (by decide +kernel) fun K hK => ?_; simp [*]) | (with_reducible refine region_tame_a mixedO (by decide +kernel) fun K hK => ?_; simp [*, Low, isLoadB, isTameB, List.range_succ, List.range']) | with_reducible refine pwp_block ?_ | with_reducible refine pwp_skip ?_ | with_reducible refine pwp_ret ?_ | with_reducible refine pwp_exit ?_ | (with_reducible refine cond_t ?_ ?_; (focus (simp [*]; done))) | (with_reducible refine cond_f ?_ ?_; (focus (simp [*]; done))) | with_reducible refine then_n ?_ | with_reducible refine then_r ?_ | with_reducible refine then_e ?_ | with_reducible refine then_g ?_ | with_reducible refine inB_n ?_ | with_reducible refine inB_r ?_ | with_reducible refine inB_e ?_ | with_reducible refine inB_o rfl ?_ | with_reducible refine inB_g ?_ | with_reducible refine Leads.go (by assumption) ?_)
  refine pwp_for (l.length) (fun k st => st.env.n = 40 ∧ st.df = [] ∧ st.env.get 0 = sD l ∧ st.env.get 1 = .val (.int .u8 (c.toNat : Nat)) ∧ st.env.get 6 = .val (.int .i64 (k : Nat)) ∧ (∃ i, i < st.H.nx ∧ st.env.get 5 = .row i 9 0 (splitB c (l.take k)).length ∧ st.H.get i = some (.row 9 ((splitB c (l.take k)).map sD)))) ⟨by first | (simp; done) | (simp [*]; done), rfl, by first | (simp; done) | (simp [*]; done), by first | (simp; done) | (simp [*]; done), by first | (simp; done) | (simp [*]; done), ?_⟩ ?_ ?_
  · exact ⟨0, by simp, by simp [splitB], by simp [splitB]⟩
  · rintro k ⟨E, Hx, df⟩ hk ⟨en, edf, e0, e1, e6, eP⟩
    simp only at en edf e0 e1 e6
    subst edf
    have hki : (k : Int) < ((l.length : Nat) : Int) := by omega
    have hkw := wrapSucc k (by omega)
    obtain ⟨i, hi, e5, hgi⟩ := eP
    simp only at hi e5 hgi
    obtain ⟨x, hx⟩ : ∃ x, l[k]? = some x := ⟨_, List.getElem?_eq_getElem (by omega)⟩
    have bx : byteAt l k = (x.toNat : Int) := byteAt_of hx
    have lx := toNat_lt x
    have hsn := splitB_snoc c x (l.take k)
    rw [show l.take k ++ [x] = l.take (k + 1) by rw [List.take_add_one, hx]; rfl] at hsn
    have hne := splitB_ne c (l.take k)
    have hcnt : (splitB c (l.take k)).length ≤ 100001 := by
      rw [splitB_len]
      have := List.count_le_length (a := c) (l := l.take k)
      rw [List.length_take] at this; omega
    obtain ⟨S, hS⟩ : ∃ S, splitB c (l.take k) = S := ⟨_, rfl⟩
    obtain ⟨S', hS'⟩ : ∃ S', splitB c (l.take (k + 1)) = S' := ⟨_, rfl⟩
    simp only [hS, hS'] at hsn hne hcnt hgi e5
    obtain ⟨m, hm⟩ : ∃ m, S.length = m + 1 := ⟨S.length - 1, by have := List.length_pos_iff.2 hne; omega⟩
    by_cases hxc : x = c
    · rw [if_pos hxc] at hsn
      subst hxc
      have hG : Grow Hx (.row i 9 0 (S.map sD).length) 9 (S.map sD) := .inr ⟨i, hi, rfl, hgi, by simp [hne]⟩
      rw [List.length_map, hm] at hG
      have hz := Hold.mk hsn
      clear hsn
      repeat (first | with_reducible refine seq_k fun K hK => ?_ | (with_reducible refine region_k fun K hK => ?_; simp [*]) | (with_reducible refine region_drawT_k mixedO (by decide +kernel) fun K hK => ?_; simp [*]) | (with_reducible refine region_tame_a mixedO (by decide +kernel) fun K hK => ?_; simp [*, Low, isLoadB, isTameB, List.range_succ, List.range']) | with_reducible refine pwp_block ?_ | with_reducible refine pwp_skip ?_ | with_reducible refine pwp_ret ?_ | with_reducible refine pwp_exit ?_ | (with_reducible refine cond_t ?_ ?_; (focus (simp [*]; done))) | (with_reducible refine cond_f ?_ ?_; (focus (simp [*]; done))) | with_reducible refine then_n ?_ | with_reducible refine then_r ?_ | with_reducible refine then_e ?_ | with_reducible refine then_g ?_ | with_reducible refine inB_n ?_ | with_reducible refine inB_r ?_ | with_reducible refine inB_e ?_ | with_reducible refine inB_o rfl ?_ | with_reducible refine inB_g ?_ | with_reducible refine Leads.go (by assumption) ?_)
      refine oK_grow hG ?_ ?_
      · simp; omega
      intro d2 H2 hG2 hn2 hH2 hf2
      try simp [*]
      repeat (first | with_reducible refine seq_k fun K hK => ?_ | (with_reducible refine region_k fun K hK => ?_; simp [*]) | (with_reducible refine region_drawT_k mixedO (by decide +kernel) fun K hK => ?_; simp [*]) | (with_reducible refine region_tame_a mixedO (by decide +kernel) fun K hK => ?_; simp [*, Low, isLoadB, isTameB, List.range_succ, List.range']) | with_reducible refine pwp_block ?_ | with_reducible refine pwp_skip ?_ | with_reducible refine pwp_ret ?_ | with_reducible refine pwp_exit ?_ | (with_reducible refine cond_t ?_ ?_; (focus (simp [*]; done))) | (with_reducible refine cond_f ?_ ?_; (focus (simp [*]; done))) | with_reducible refine then_n ?_ | with_reducible refine then_r ?_ | with_reducible refine then_e ?_ | with_reducible refine then_g ?_ | with_reducible refine inB_n ?_ | with_reducible refine inB_r ?_ | with_reducible refine inB_e ?_ | with_reducible refine inB_o rfl ?_ | with_reducible refine inB_g ?_ | with_reducible refine Leads.go (by assumption) ?_)
      simp [*]
      rcases hG2 with ⟨hb, _⟩ | ⟨i2, hi2, h2, hg2, _⟩
      · simp at hb
      · have hz := hz.out
        refine ⟨i2, by omega, ?_, ?_⟩
        · rw [h2, hz]; simp
        · rw [hg2, hz]; simp
    · rw [if_neg hxc] at hsn
      have hxi : ¬ (x.toNat : Int) = (c.toNat : Int) := fun q => hxc (UInt8.toNat_inj.1 (by omega))
      have hxn : ¬ x.toNat = c.toNat := fun q => hxc (UInt8.toNat_inj.1 q)
      obtain ⟨z, hz⟩ : ∃ z, S.getLast hne = z := ⟨_, rfl⟩
      rw [hz] at hsn
      have hzl : z.length ≤ 100000 := by
        have h1 := splitB_parts c (l.take k) z (by rw [hS, ← hz]; exact List.getLast_mem hne)
        rw [List.length_take] at h1; omega
      have hSm : S[m]? = some z := by
        rw [← hz, List.getLast_eq_getElem, ← List.getElem?_eq_getElem]; congr 1; omega
      have hW : (S.map sD)[m]? = some (sD z) := by rw [List.getElem?_map, hSm]; rfl
      have hset : (S.map sD).set m (sD (z ++ [x])) = S'.map sD := by
        rw [hsn, ← List.map_set]
        congr 1
        rw [← set_last S hne]
        congr 1; omega
      have hSl : S'.length = m + 1 := by rw [hsn]; simp; omega
      rw [hm] at e5
      have hWl : (S.map sD).length = m + 1 := by simp [hm]
      generalize S.map sD = W at *
      simp only [sD] at hW hset
      have hWg := get_of hW
      have w1 := wrapI (m : Int) (by omega) (by omega)
      have w2 : IntKind.i64.wrap ((m : Int) + 1 - 1) = (m : Int) := by rw [wrapI _ (by omega) (by omega)]; omega
      have w3 := wrapI ((k : Int) + 1) (by omega) (by omega)
      have w4 : (k : Int) ≤ (k : Int) + 1 := by omega
      have w5 : (k : Int) + 1 ≤ (l.length : Int) := by omega
      have w6 : (m : Int) < (m : Int) + 1 := by omega
      have w7 : (l.take (k + 1)).drop k = [x] := by rw [List.take_add_one, hx]; exact List.drop_left' (by simp; omega)
      have w8 : z.length + 1 ≤ 9223372036854775807 := by omega
      have kp := Hold.mk (And.intro hS (And.intro hS' hsn))
      clear hS hS' hsn hne hz hSm
      repeat (first | with_reducible refine seq_k fun K hK => ?_ | (with_reducible refine region_k fun K hK => ?_; simp [*]) | (with_reducible refine region_drawT_k mixedO (by decide +kernel) fun K hK => ?_; simp [*]) | (with_reducible refine region_tame_a mixedO (by decide +kernel) fun K hK => ?_; simp [*, Low, isLoadB, isTameB, List.range_succ, List.range']) | with_reducible refine pwp_block ?_ | with_reducible refine pwp_skip ?_ | with_reducible refine pwp_ret ?_ | with_reducible refine pwp_exit ?_ | (with_reducible refine cond_t ?_ ?_; (focus (simp [*]; done))) | (with_reducible refine cond_f ?_ ?_; (focus (simp [*]; done))) | with_reducible refine then_n ?_ | with_reducible refine then_r ?_ | with_reducible refine then_e ?_ | with_reducible refine then_g ?_ | with_reducible refine inB_n ?_ | with_reducible refine inB_r ?_ | with_reducible refine inB_e ?_ | with_reducible refine inB_o rfl ?_ | with_reducible refine inB_g ?_ | with_reducible refine Leads.go (by assumption) ?_)
      simp [*]
      exact ⟨i, hi, ⟨rfl, by rw [kp.out.2.1, hSl]⟩, by rw [kp.out.2.1, if_pos rfl]⟩
  · rintro ⟨E, Hx, df⟩ ⟨en, edf, e0, e1, e6, eP⟩
    simp only at en edf e0 e1 e6
    subst edf
    obtain ⟨i, hi, e5, hgi⟩ := eP
    simp only [List.take_length] at hi e5 hgi
    have hne := splitB_ne c l
    have hG : Grow Hx (.row i 9 0 ((splitB c l).map sD).length) 9 ((splitB c l).map sD) := .inr ⟨i, hi, rfl, hgi, by simp [hne]⟩
    have hfz := hG.fz (n := 2) (fz_vals (P := Tryd.prog) (fun s : By => .string ⟨s.toArray⟩) 1 _ (splitB c l))
    rw [List.length_map, frD, if_neg (by simp [hne])] at hfz
    generalize splitB c l = S at *
    repeat (first | with_reducible refine seq_k fun K hK => ?_ | (with_reducible refine region_k fun K hK => ?_; simp [*]) | (with_reducible refine region_drawT_k mixedO (by decide +kernel) fun K hK => ?_; simp [*]) | (with_reducible refine region_tame_a mixedO (by decide +kernel) fun K hK => ?_; simp [*, Low, isLoadB, isTameB, List.range_succ, List.range']) | with_reducible refine pwp_block ?_ | with_reducible refine pwp_skip ?_ | with_reducible refine pwp_ret ?_ | with_reducible refine pwp_exit ?_ | (with_reducible refine cond_t ?_ ?_; (focus (simp [*]; done))) | (with_reducible refine cond_f ?_ ?_; (focus (simp [*]; done))) | with_reducible refine then_n ?_ | with_reducible refine then_r ?_ | with_reducible refine then_e ?_ | with_reducible refine then_g ?_ | with_reducible refine inB_n ?_ | with_reducible refine inB_r ?_ | with_reducible refine inB_e ?_ | with_reducible refine inB_o rfl ?_ | with_reducible refine inB_g ?_ | with_reducible refine Leads.go (by assumption) ?_)
    simp [*]
    try exact hfz
theorem rparts_spec (l : By) (c : UInt8) (hl : l.length ≤ 100000) (H : Heap) : PCalls Tryd.prog 36 [sD l, .val (.int .u8 (c.toNat : Nat))] H fun d H' => d = .slice 0 9 ((splitB c l).map sD) ∧ H' = H :=
  PCalls.liftG (PCalls.frozen (rparts_local l c hl)) (fun d hd => by
    simp only [List.mem_cons, List.mem_nil_iff, or_false] at hd
    rcases hd with rfl | rfl <;> exact .val _) (pure_strs _ _ _) H
end Go.Pv
