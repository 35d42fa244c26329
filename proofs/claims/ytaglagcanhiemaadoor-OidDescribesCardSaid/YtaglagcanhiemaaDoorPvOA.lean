/- A part of the proof: functions of the program, walked, or what operations come to. -/
import Derived.Test.YtaglagcanhiemaaDoorPvO9
import Derived.Test.YtaglagcanhiemaaDoorPvN3
import Derived.Test.YtaglagcanhiemaaDoorPvTameB
import Derived.Test.YtaglagcanhiemaaDoorPvLib
import Derived.Test.YtaglagcanhiemaaDoorShelf
-- ZpvTameA ZpvDrawT
namespace Go.Pv
open Go.Proofs
attribute [-simp] eLen UInt8.ofNat_add

/-! ### bytes.Equal, strings.Join -/
theorem join_row (i : Nat) (L : List By) (s : By) (H : Heap) (hi : H.get i = some (.row 9 (L.map sD))) (hL : L.length ≤ 100000) (hn : L ≠ []) (hl : (Lib.join L s).length ≤ 140737488355328) :
    PCalls Tryd.prog 25 [.row i 9 0 L.length, sD s] H fun d H' => d = sD (Lib.join L s) ∧ H' = H := by
  intro base w0 Γ w args hR hA
  obtain ⟨v1, v2, rfl, r1, r2⟩ := repAll2 hA
  obtain rfl := rep_val r2
  cases r1 with
  | row _ _ _ _ x hb he hc hm =>
    obtain ⟨hb1, hlt, _, _, k3, k4, vs, T, fr, x3, x4, x5, x6⟩ := hR.objAt hi hb
    have hfl : flat (L.map sD) = L.map sD := flat_ones _ fun d hd => by obtain ⟨a, _, rfl⟩ := List.mem_map.1 hd; rfl
    have hmap : (L.map fun a => (⟨a.toArray⟩ : ByteArray)).map (·.data.toList) = L := by rw [List.map_map]; exact (List.map_congr_left (g := id) (fun a _ => by simp)).trans (List.map_id _)
    have hS := Tryd.strings_Join x.b (x.o + 0 * szOf Tryd.prog 9) (x.cap - 0) (L.map fun a => (⟨a.toArray⟩ : ByteArray)) ⟨s.toArray⟩ w (fun j y hj => by
      rw [List.getElem?_map] at hj
      obtain ⟨a, ha, rfl⟩ := Option.map_eq_some_iff.1 hj
      obtain ⟨v, hv, hr, _⟩ := x6 j (sD a) (by rw [hfl, List.getElem?_map, ha]; rfl)
      obtain rfl := rep_val hr
      rw [Nat.zero_mul, Nat.add_zero, cell_of_row w x.b _ vs T fr x3]; exact hv) hlt (by simp; omega) (by simp; omega) (by rw [hmap]; simpa using hl)
    rw [hmap] at hS
    simp only [List.length_map] at hS
    rw [Tryd.call25]
    refine Calls.mono hS ?_
    rintro e w' ⟨rfl, hB⟩
    refine ⟨_, rfl, Γ, H, _, .refl Γ, hR.world (hR.below.trans (Kept.ofBelow hB hR.size)) hB.size (fun b hb => hB.block b hb), .val _, ?_, rfl⟩
    simp [sD]
theorem join_none (s : By) (H : Heap) : PCalls Tryd.prog 25 [.slice 1 0 [], sD s] H fun d H' => d = sD [] ∧ H' = H := by
  intro base w0 Γ w args hR hA
  obtain ⟨v1, v2, rfl, r1, r2⟩ := repAll2 hA
  obtain rfl := rep_val r2
  have hv : ∃ a c, v1 = .slice a 0 c := by
    cases r1 with
    | nil => exact ⟨none, 0, rfl⟩
    | slice _ _ _ a ad cap vs hg => exact absurd rfl hg
  obtain ⟨a, c, rfl⟩ := hv
  rw [Tryd.call25]
  refine Calls.mono (Tryd.strings_Join_none a c ⟨s.toArray⟩ w) ?_
  rintro e w' ⟨rfl, rfl⟩
  exact ⟨_, rfl, Γ, H, _, .refl Γ, hR, .val _, rfl, rfl⟩
theorem Join_spec (d0 : D) (L : List By) (c : UInt8) (H : Heap) (hG : Grow H d0 9 (L.map sD)) (hL : L.length ≤ 100000) (hl : (joinB c L).length ≤ 140737488355328) :
    PCalls Tryd.prog 25 [d0, sD [c]] H fun d H' => d = sD (joinB c L) ∧ H' = H := by
  rcases hG with ⟨h, rfl⟩ | ⟨i, h1, rfl, h3, h4⟩
  · have : L = [] := by simpa using h
    subst this
    exact join_none [c] H
  · have := join_row i L [c] H h3 hL (by simpa using h4) (by rw [join_joinB]; exact hl)
    rw [join_joinB] at this
    rw [List.length_map]
    exact this
set_option maxHeartbeats 4000000 in
set_option maxRecDepth 100000 in
theorem bytesEqual_spec (g1 e1 g2 e2 : Nat) (a b : By) (h1 : e1 = 5 ∨ a = []) (h2 : e2 = 5 ∨ b = []) (H : Heap) :
    PCalls Tryd.prog 26 [.slice g1 e1 (a.map byD), .slice g2 e2 (b.map byD)] H fun d H' => d = .val (.bool (decide (a = b))) ∧ H' = H := by
  refine PCalls.of_pwp Tryd.call26 Tryd.func26 rfl (by simp [Tryd.ntmps26]) ?_
  rw [Tryd.ntmps26]
  have h1' : (5 = e1 ∨ a.map byD = []) = True := eq_true (by rcases h1 with rfl | rfl; exact .inl rfl; exact .inr rfl)
  have h2' : (5 = e2 ∨ b.map byD = []) = True := eq_true (by rcases h2 with rfl | rfl; exact .inl rfl; exact .inr rfl)
  have ha := eToStr_by a
  have hb := eToStr_by b
  generalize hA : a.map byD = A at *
  generalize hB : b.map byD = B at *
  clear hA hB h1 h2
  repeat (first | with_reducible refine seq_k fun K hK => ?_ | (with_reducible refine region_k fun K hK => ?_; simp [*]) | (with_reducible refine region_drawT_k mixedO (by decide +kernel) fun K hK => ?_; simp [*]) | (with_reducible refine region_tame_a mixedO (by decide +kernel) fun K hK => ?_; simp [*, Low, isLoadB, isTameB, List.range_succ, List.range']) | with_reducible refine pwp_block ?_ | with_reducible refine pwp_skip ?_ | with_reducible refine pwp_ret ?_ | with_reducible refine pwp_exit ?_ | (with_reducible refine cond_t ?_ ?_; (focus (simp [*]; done))) | (with_reducible refine cond_f ?_ ?_; (focus (simp [*]; done))) | with_reducible refine then_n ?_ | with_reducible refine then_r ?_ | with_reducible refine then_e ?_ | with_reducible refine then_g ?_ | with_reducible refine inB_n ?_ | with_reducible refine inB_r ?_ | with_reducible refine inB_e ?_ | with_reducible refine inB_o rfl ?_ | with_reducible refine inB_g ?_ | with_reducible refine Leads.go (by assumption) ?_)
  simp [*]
end Go.Pv
