/- A part of the proof: functions of the program, walked, or what operations come to. -/
import Derived.Test.YtmaajijhfpdefaaPvS6
namespace Go.Pv
open Go.Proofs
attribute [local simp] Try.underlying29 Try.underlying46 Heap.new_get Heap.put_get
def IdxPost (l2 l : List (List UInt8)) (d : D) : Prop := (∃ k : Nat, k < l2.length ∧ d = .val (.int .i64 k) ∧ (∀ x ∈ l2.take k, x ∉ l) ∧ ∃ c, l2[k]? = some c ∧ c ∈ l) ∨ (d = .val (.int .i64 (-1)) ∧ ∀ x ∈ l2, x ∉ l)
@[simp] theorem res39 : Try.f39.results.toList = [.tmp 4] := rfl
@[simp] theorem res29 : Try.f29.results.toList = [.tmp 4] := rfl
set_option maxHeartbeats 4000000 in
set_option maxRecDepth 100000 in
theorem indexFunc_spec (a : Nat) (L2 : List D) (l2 : List (List UInt8)) (j i : Nat) (L : List D) (l : List (List UInt8)) (H : Heap) (ha : H.get a = some (.row 9 L2)) (hL2 : L2.take l2.length = lb l2) (hl2 : l2.length ≤ 100000)
    (hj : H.get j = some (.cells [.row i 9 0 l.length])) (hi : H.get i = some (.row 9 L)) (hL : L.take l.length = lb l) (hl : l.length ≤ 100000) :
    PCalls Try.prog 39 [.row a 9 0 l2.length, .clo (.func 30) [] [.ptr j 0]] H fun d H' => IdxPost l2 l d ∧ H' = H := by
  refine PCalls.of_pwp Try.call39 Try.func39 rfl (by simp [Try.ntmps39]) ?_
  rw [Try.ntmps39]
  repeat (first | with_reducible refine seq_k fun K hK => ?_ | (with_reducible refine region_k fun K hK => ?_; simp [*]) | with_reducible refine pwp_block ?_ | with_reducible refine pwp_skip ?_ | with_reducible refine pwp_ret ?_ | with_reducible refine pwp_exit ?_ | (with_reducible refine cond_t ?_ ?_; (focus (simp [*]; done))) | (with_reducible refine cond_f ?_ ?_; (focus (simp [*]; done))) | with_reducible refine then_n ?_ | with_reducible refine then_r ?_ | with_reducible refine then_e ?_ | with_reducible refine then_g ?_ | with_reducible refine inB_n ?_ | with_reducible refine inB_r ?_ | with_reducible refine inB_e ?_ | with_reducible refine inB_o rfl ?_ | with_reducible refine inB_g ?_ | with_reducible refine Leads.go (by assumption) ?_)
  refine pwp_loop (fun m st => ∃ k, k ≤ l2.length ∧ m = l2.length - k ∧ st.env.n = 19 ∧ st.df = [] ∧ st.H = H ∧ st.env.get 0 = .row a 9 0 l2.length ∧ st.env.get 1 = .clo (.func 30) [] [.ptr j 0] ∧ st.env.get 7 = .val (.int .i64 l2.length) ∧ st.env.get 8 = .val (.int .i64 k) ∧ ∀ x ∈ l2.take k, x ∉ l) l2.length ?_ ?_
  · refine ⟨0, by omega, by omega, by simp, rfl, rfl, by simp, by simp, by simp, by simp, by simp⟩
  · rintro m ⟨E, H2, df⟩ ⟨k, hk, rfl, en, edf, eH, e0, e1, e7, e8, eP⟩
    simp only at en edf eH e0 e1 e7 e8
    subst edf; subst eH
    by_cases h : k < l2.length
    · have hki : (k : Int) < (l2.length : Int) := by omega
      obtain ⟨c, hc⟩ : ∃ c, l2[k]? = some c := ⟨_, List.getElem?_eq_getElem h⟩
      have hLk : L2[k]? = some (.val (.string ⟨c.toArray⟩)) := by
        have : (L2.take l2.length)[k]? = L2[k]? := by rw [List.getElem?_take, if_pos h]
        rw [← this, hL2, lb, List.getElem?_map, hc]; rfl
      have hLl : k < L2.length := (List.getElem?_eq_some_iff.1 hLk).1
      have hge : ∀ h, L2[k]'h = .val (.string ⟨c.toArray⟩) := fun h => by have := hLk; rw [List.getElem?_eq_getElem h] at this; exact Option.some.inj this
      have hw := wrapSucc k (by omega)
      have hT : l2.take (k + 1) = l2.take k ++ [c] := by rw [List.take_add_one, hc]; rfl
      have hcl := closure_spec j i L l c H2 hj hi hL hl
      clear hi hL
      repeat (first | with_reducible refine seq_k fun K hK => ?_ | (with_reducible refine region_k fun K hK => ?_; simp [*]) | with_reducible refine pwp_block ?_ | with_reducible refine pwp_skip ?_ | with_reducible refine pwp_ret ?_ | with_reducible refine pwp_exit ?_ | (with_reducible refine cond_t ?_ ?_; (focus (simp [*]; done))) | (with_reducible refine cond_f ?_ ?_; (focus (simp [*]; done))) | with_reducible refine then_n ?_ | with_reducible refine then_r ?_ | with_reducible refine then_e ?_ | with_reducible refine then_g ?_ | with_reducible refine inB_n ?_ | with_reducible refine inB_r ?_ | with_reducible refine inB_e ?_ | with_reducible refine inB_o rfl ?_ | with_reducible refine inB_g ?_ | with_reducible refine Leads.go (by assumption) ?_)
      refine PCalls.mono hcl ?_
      rintro _ _ ⟨rfl, rfl⟩
      by_cases h1 : c ∈ l
      · try simp [*]
        repeat (first | with_reducible refine seq_k fun K hK => ?_ | (with_reducible refine region_k fun K hK => ?_; simp [*]) | with_reducible refine pwp_block ?_ | with_reducible refine pwp_skip ?_ | with_reducible refine pwp_ret ?_ | with_reducible refine pwp_exit ?_ | (with_reducible refine cond_t ?_ ?_; (focus (simp [*]; done))) | (with_reducible refine cond_f ?_ ?_; (focus (simp [*]; done))) | with_reducible refine then_n ?_ | with_reducible refine then_r ?_ | with_reducible refine then_e ?_ | with_reducible refine then_g ?_ | with_reducible refine inB_n ?_ | with_reducible refine inB_r ?_ | with_reducible refine inB_e ?_ | with_reducible refine inB_o rfl ?_ | with_reducible refine inB_g ?_ | with_reducible refine Leads.go (by assumption) ?_)
        simp [*]
        exact .inl ⟨k, h, rfl, eP, c, hc, h1⟩
      · try simp [*]
        repeat (first | with_reducible refine seq_k fun K hK => ?_ | (with_reducible refine region_k fun K hK => ?_; simp [*]) | with_reducible refine pwp_block ?_ | with_reducible refine pwp_skip ?_ | with_reducible refine pwp_ret ?_ | with_reducible refine pwp_exit ?_ | (with_reducible refine cond_t ?_ ?_; (focus (simp [*]; done))) | (with_reducible refine cond_f ?_ ?_; (focus (simp [*]; done))) | with_reducible refine then_n ?_ | with_reducible refine then_r ?_ | with_reducible refine then_e ?_ | with_reducible refine then_g ?_ | with_reducible refine inB_n ?_ | with_reducible refine inB_r ?_ | with_reducible refine inB_e ?_ | with_reducible refine inB_o rfl ?_ | with_reducible refine inB_g ?_ | with_reducible refine Leads.go (by assumption) ?_)
        refine ⟨l2.length - (k + 1), by omega, k + 1, by omega, rfl, by simp [*], rfl, rfl, by simp [*], by simp [*], by simp [*], by simp [*], ?_⟩
        rw [hT]
        intro x hx
        rcases List.mem_append.1 hx with hx | hx
        · exact eP x hx
        · rw [List.mem_singleton] at hx; subst hx; exact h1
    · have hks : k = l2.length := by omega
      subst hks
      rw [List.take_length] at eP
      repeat (first | with_reducible refine seq_k fun K hK => ?_ | (with_reducible refine region_k fun K hK => ?_; simp [*]) | with_reducible refine pwp_block ?_ | with_reducible refine pwp_skip ?_ | with_reducible refine pwp_ret ?_ | with_reducible refine pwp_exit ?_ | (with_reducible refine cond_t ?_ ?_; (focus (simp [*]; done))) | (with_reducible refine cond_f ?_ ?_; (focus (simp [*]; done))) | with_reducible refine then_n ?_ | with_reducible refine then_r ?_ | with_reducible refine then_e ?_ | with_reducible refine then_g ?_ | with_reducible refine inB_n ?_ | with_reducible refine inB_r ?_ | with_reducible refine inB_e ?_ | with_reducible refine inB_o rfl ?_ | with_reducible refine inB_g ?_ | with_reducible refine Leads.go (by assumption) ?_)
      simp [*]
      exact .inr ⟨rfl, eP⟩
end Go.Pv
