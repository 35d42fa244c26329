/- A part of the proof: functions of the program, walked, or what operations come to. -/
import Derived.Test.YtmaajijhfpdefaaPvS7
namespace Go.Pv
open Go.Proofs
attribute [local simp] Try.underlying29 Try.underlying46 Heap.new_get Heap.put_get eClear
@[simp] theorem ze9 : zeroElem Try.prog 9 = some (.val (.string ⟨#[]⟩)) := by kernel_rfl
/-- Kept for later, out of simp's sight. -/
structure Hold (p : Prop) : Prop where
  out : p
theorem take_set_succ {α : Type} (M : List α) (p : Nat) (x : α) (hp : p < M.length) : (M.set p x).take (p + 1) = M.take p ++ [x] := by
  rw [List.take_add_one, List.getElem?_set_self hp, List.take_set_of_le (Nat.le_refl p)]
  rfl
def rest (l2 l : List (List UInt8)) : List (List UInt8) := l2.filter fun x => decide (x ∉ l)
def DelPost (a : Nat) (l2 l : List (List UInt8)) (H : Heap) (d : D) (H' : Heap) : Prop :=
  d = .row a 9 0 (rest l2 l).length ∧ (∃ M, H'.get a = some (.row 9 M) ∧ M.take (rest l2 l).length = lb (rest l2 l)) ∧ (∀ x, x ≠ a → H'.get x = H.get x) ∧ H'.nx = H.nx
set_option maxHeartbeats 8000000 in
set_option maxRecDepth 100000 in
theorem deleteFunc_spec (a : Nat) (L2 : List D) (l2 : List (List UInt8)) (j i : Nat) (L : List D) (l : List (List UInt8)) (H : Heap) (ha : H.get a = some (.row 9 L2)) (hL2 : L2.take l2.length = lb l2) (hl2 : l2.length ≤ 100000)
    (hj : H.get j = some (.cells [.row i 9 0 l.length])) (hi : H.get i = some (.row 9 L)) (hL : L.take l.length = lb l) (hl : l.length ≤ 100000) (hai : i ≠ a) :
    PCalls Try.prog 29 [.row a 9 0 l2.length, .clo (.func 30) [] [.ptr j 0]] H fun d H' => DelPost a l2 l H d H' := by
  refine PCalls.of_pwp Try.call29 Try.func29 rfl (by simp [Try.ntmps29]) ?_
  rw [Try.ntmps29]
  have haj : j ≠ a := fun q => by subst q; rw [ha] at hj; cases hj
  repeat (first | with_reducible refine seq_k fun K hK => ?_ | (with_reducible refine region_k fun K hK => ?_; simp [*]) | with_reducible refine pwp_block ?_ | with_reducible refine pwp_skip ?_ | with_reducible refine pwp_ret ?_ | with_reducible refine pwp_exit ?_ | (with_reducible refine cond_t ?_ ?_; (focus (simp [*]; done))) | (with_reducible refine cond_f ?_ ?_; (focus (simp [*]; done))) | with_reducible refine then_n ?_ | with_reducible refine then_r ?_ | with_reducible refine then_e ?_ | with_reducible refine then_g ?_ | with_reducible refine inB_n ?_ | with_reducible refine inB_r ?_ | with_reducible refine inB_e ?_ | with_reducible refine inB_o rfl ?_ | with_reducible refine inB_g ?_ | with_reducible refine Leads.go (by assumption) ?_)
  refine PCalls.mono (indexFunc_spec a L2 l2 j i L l H ha hL2 hl2 hj hi hL hl) ?_
  rintro _ H ⟨hP, rfl⟩
  rcases hP with ⟨k, hk, rfl, hk2, c, hc, hcl⟩ | ⟨rfl, hall⟩
  · have hk1 : ((k : Int) = -1) = False := by simp
    have hw := wrapSucc k (by omega)
    have hn2 : l2.length ≤ L2.length := by
      have := congrArg List.length hL2
      simp [lb] at this
      omega
    have hrk : rest (l2.take (k + 1)) l = l2.take k := by
      rw [List.take_add_one, hc, rest, List.filter_append, List.filter_eq_self.2 (fun x hx => by simp [hk2 x hx])]
      simp [hcl]
    try simp [*]
    repeat (first | with_reducible refine seq_k fun K hK => ?_ | (with_reducible refine region_k fun K hK => ?_; simp [*]) | with_reducible refine pwp_block ?_ | with_reducible refine pwp_skip ?_ | with_reducible refine pwp_ret ?_ | with_reducible refine pwp_exit ?_ | (with_reducible refine cond_t ?_ ?_; (focus (simp [*]; done))) | (with_reducible refine cond_f ?_ ?_; (focus (simp [*]; done))) | with_reducible refine then_n ?_ | with_reducible refine then_r ?_ | with_reducible refine then_e ?_ | with_reducible refine then_g ?_ | with_reducible refine inB_n ?_ | with_reducible refine inB_r ?_ | with_reducible refine inB_e ?_ | with_reducible refine inB_o rfl ?_ | with_reducible refine inB_g ?_ | with_reducible refine Leads.go (by assumption) ?_)
    refine pwp_loop (fun m st => ∃ (p q : Nat) (M : List D), q ≤ l2.length ∧ p < q ∧ m = l2.length - q ∧ st.env.n = 42 ∧ st.df = [] ∧ st.env.get 0 = .row a 9 0 l2.length ∧ st.env.get 1 = .clo (.func 30) [] [.ptr j 0] ∧ st.env.get 5 = .val (.int .i64 p) ∧ st.env.get 6 = .val (.int .i64 q) ∧
      st.H.get a = some (.row 9 M) ∧ M.length = L2.length ∧ p = (rest (l2.take q) l).length ∧ M.take p = lb (rest (l2.take q) l) ∧ (∀ x, q ≤ x → M[x]? = L2[x]?) ∧ (∀ x, x ≠ a → st.H.get x = H.get x) ∧ st.H.nx = H.nx ∧ ∀ x, x < l2.length → ∃ b, M[x]? = some (.val (.string b))) (l2.length - (k + 1)) ?_ ?_
    · refine ⟨k, k + 1, L2, by omega, by omega, rfl, by simp, rfl, by simp, by simp, by simp, by simp, ha, rfl, by rw [hrk]; simp; omega, ?_, fun _ _ => rfl, fun _ _ => rfl, rfl, fun x hx => ?_⟩
      · rw [hrk, lb, List.map_take]
        have := congrArg (List.take k) hL2
        rw [List.take_take, Nat.min_eq_left (by omega)] at this
        exact this
      · have h1 : (L2.take l2.length)[x]? = L2[x]? := by rw [List.getElem?_take, if_pos hx]
        rw [← h1, hL2, lb, List.getElem?_map, List.getElem?_eq_getElem hx]
        exact ⟨_, rfl⟩
    · rintro m ⟨E, H2, df⟩ ⟨p, q, M, hq, hpq, rfl, en, edf, e0, e1, e5, e6, eA, eL, ep, eT, eR, eO, eN, eS⟩
      simp only at en edf e0 e1 e5 e6 eA eO eN
      subst edf
      have hpi : (p : Int) < (l2.length : Int) := by omega
      have hpM : p < M.length := by omega
      have hwp := wrapSucc p (by omega)
      have hwq := wrapSucc q (by omega)
      clear hc hcl hk2 hk1 hw hrk ha
      obtain ⟨bp, hbp⟩ := eS p (by omega)
      have hgp : ∀ h, M[p]'h = .val (.string bp) := fun h => by have := hbp; rw [List.getElem?_eq_getElem h] at this; exact Option.some.inj this
      have kS := Hold.mk eS
      clear eS
      by_cases h : q < l2.length
      · have hki : (q : Int) < (l2.length : Int) := by omega
        obtain ⟨c, hc⟩ : ∃ c, l2[q]? = some c := ⟨_, List.getElem?_eq_getElem h⟩
        have hMq : M[q]? = some (.val (.string ⟨c.toArray⟩)) := by
          rw [eR q (Nat.le_refl _)]
          have : (L2.take l2.length)[q]? = L2[q]? := by rw [List.getElem?_take, if_pos h]
          rw [← this, hL2, lb, List.getElem?_map, hc]; rfl
        have hqM : q < M.length := by omega
        have hge : ∀ h, M[q]'h = .val (.string ⟨c.toArray⟩) := fun h => by have := hMq; rw [List.getElem?_eq_getElem h] at this; exact Option.some.inj this
        have hcl := closure_spec j i L l c H2 (by rw [eO j haj]; exact hj) (by rw [eO i hai]; exact hi) hL hl
        have hT : rest (l2.take (q + 1)) l = rest (l2.take q) l ++ (if c ∈ l then [] else [c]) := by
          rw [List.take_add_one, hc, rest, rest, List.filter_append]
          by_cases h1 : c ∈ l <;> simp [h1]
        have kR := Hold.mk eR
        have kL := Hold.mk eL
        have kp := Hold.mk ep
        have kT := Hold.mk eT
        have kO := Hold.mk eO
        clear hi hj hL hL2 eR eL ep eT eO
        repeat (first | with_reducible refine seq_k fun K hK => ?_ | (with_reducible refine region_k fun K hK => ?_; simp [*]) | with_reducible refine pwp_block ?_ | with_reducible refine pwp_skip ?_ | with_reducible refine pwp_ret ?_ | with_reducible refine pwp_exit ?_ | (with_reducible refine cond_t ?_ ?_; (focus (simp [*]; done))) | (with_reducible refine cond_f ?_ ?_; (focus (simp [*]; done))) | with_reducible refine then_n ?_ | with_reducible refine then_r ?_ | with_reducible refine then_e ?_ | with_reducible refine then_g ?_ | with_reducible refine inB_n ?_ | with_reducible refine inB_r ?_ | with_reducible refine inB_e ?_ | with_reducible refine inB_o rfl ?_ | with_reducible refine inB_g ?_ | with_reducible refine Leads.go (by assumption) ?_)
        refine PCalls.mono hcl ?_
        rintro _ _ ⟨rfl, rfl⟩
        clear hcl
        by_cases h1 : c ∈ l
        · try simp [*]
          repeat (first | with_reducible refine seq_k fun K hK => ?_ | (with_reducible refine region_k fun K hK => ?_; simp [*]) | with_reducible refine pwp_block ?_ | with_reducible refine pwp_skip ?_ | with_reducible refine pwp_ret ?_ | with_reducible refine pwp_exit ?_ | (with_reducible refine cond_t ?_ ?_; (focus (simp [*]; done))) | (with_reducible refine cond_f ?_ ?_; (focus (simp [*]; done))) | with_reducible refine then_n ?_ | with_reducible refine then_r ?_ | with_reducible refine then_e ?_ | with_reducible refine then_g ?_ | with_reducible refine inB_n ?_ | with_reducible refine inB_r ?_ | with_reducible refine inB_e ?_ | with_reducible refine inB_o rfl ?_ | with_reducible refine inB_g ?_ | with_reducible refine Leads.go (by assumption) ?_)
          have ep := kp.out
          have eT := kT.out
          refine ⟨l2.length - (q + 1), by omega, p, q + 1, M, by omega, by omega, rfl, by simp [*], rfl, by simp [*], by simp [*], by simp [*], by simp [*], by simp [*], kL.out, ?_, ?_, fun x hx => kR.out x (by omega), kO.out, eN, kS.out⟩
          · rw [hT, if_pos h1, List.append_nil]; exact ep
          · rw [hT, if_pos h1, List.append_nil]; exact eT
        · try simp [*]
          repeat (first | with_reducible refine seq_k fun K hK => ?_ | (with_reducible refine region_k fun K hK => ?_; simp [*]) | with_reducible refine pwp_block ?_ | with_reducible refine pwp_skip ?_ | with_reducible refine pwp_ret ?_ | with_reducible refine pwp_exit ?_ | (with_reducible refine cond_t ?_ ?_; (focus (simp [*]; done))) | (with_reducible refine cond_f ?_ ?_; (focus (simp [*]; done))) | with_reducible refine then_n ?_ | with_reducible refine then_r ?_ | with_reducible refine then_e ?_ | with_reducible refine then_g ?_ | with_reducible refine inB_n ?_ | with_reducible refine inB_r ?_ | with_reducible refine inB_e ?_ | with_reducible refine inB_o rfl ?_ | with_reducible refine inB_g ?_ | with_reducible refine Leads.go (by assumption) ?_)
          have ep := kp.out
          have eT := kT.out
          refine ⟨l2.length - (q + 1), by omega, p + 1, q + 1, M.set p (.val (.string ⟨c.toArray⟩)), by omega, by omega, rfl, by simp [*], rfl, by simp [*], by simp [*], by simp [*], by simp [*], ?_, by rw [List.length_set]; exact kL.out, ?_, ?_, fun x hx => ?_, fun x hx => ?_, by simp [*], fun x hx => ?_⟩
          · simp [*]; rfl
          · rw [hT, if_neg h1]; simp; exact ep
          · rw [hT, if_neg h1, lb, List.map_append, take_set_succ _ _ _ hpM, eT]
            rfl
          · rw [List.getElem?_set_ne (by omega)]; exact kR.out x (by omega)
          · simp [hx]; exact kO.out x hx
          · rw [List.getElem?_set]
            split
            · exact ⟨_, rfl⟩
            · exact kS.out x hx
      · have hqs : q = l2.length := by omega
        subst hqs
        have kR := Hold.mk eR
        have kL := Hold.mk eL
        have kp := Hold.mk ep
        have kT := Hold.mk eT
        have kO := Hold.mk eO
        have hpl : p ≤ l2.length := by omega
        have hpl2 : p < l2.length := by omega
        have hln : l2.length ≤ M.length := by omega
        clear hi hj hL hL2 eR eL ep eT eO
        have hz0 : (l2.length - p = 0) = False := by simp; omega
        have ep := kp.out
        have eT := kT.out
        rw [List.take_length] at ep eT
        have kp2 := Hold.mk ep
        have kT2 := Hold.mk eT
        clear kp kT ep eT
        have hfin : ∀ M2 : List D, M2.take p = M.take p → DelPost a l2 l H (.row a 9 0 p) (H2.put a (some (.row 9 M2))) := fun M2 h2 =>
          ⟨by rw [kp2.out], ⟨M2, Heap.put_same _ _ _, by rw [← kp2.out, h2]; exact kT2.out⟩, fun x hx => by rw [Heap.put_ne _ _ hx]; exact kO.out x hx, eN⟩
        have kF := Hold.mk hfin
        clear hfin
        repeat (first | with_reducible refine seq_k fun K hK => ?_ | (with_reducible refine region_k fun K hK => ?_; simp [*]) | with_reducible refine pwp_block ?_ | with_reducible refine pwp_skip ?_ | with_reducible refine pwp_ret ?_ | with_reducible refine pwp_exit ?_ | (with_reducible refine cond_t ?_ ?_; (focus (simp [*]; done))) | (with_reducible refine cond_f ?_ ?_; (focus (simp [*]; done))) | with_reducible refine then_n ?_ | with_reducible refine then_r ?_ | with_reducible refine then_e ?_ | with_reducible refine then_g ?_ | with_reducible refine inB_n ?_ | with_reducible refine inB_r ?_ | with_reducible refine inB_e ?_ | with_reducible refine inB_o rfl ?_ | with_reducible refine inB_g ?_ | with_reducible refine Leads.go (by assumption) ?_)
        by_cases hp0 : 0 < p
        · simp [*]
          refine kF.out _ ?_
          rw [List.take_append_of_le_length (by simp; omega), List.take_take, Nat.min_self]
        · have hp1 : p = 0 := by omega
          simp only [hp0, if_false]
          subst hp1
          simp [*]
          refine kF.out _ ?_
          simp
  · try simp [*]
    repeat (first | with_reducible refine seq_k fun K hK => ?_ | (with_reducible refine region_k fun K hK => ?_; simp [*]) | with_reducible refine pwp_block ?_ | with_reducible refine pwp_skip ?_ | with_reducible refine pwp_ret ?_ | with_reducible refine pwp_exit ?_ | (with_reducible refine cond_t ?_ ?_; (focus (simp [*]; done))) | (with_reducible refine cond_f ?_ ?_; (focus (simp [*]; done))) | with_reducible refine then_n ?_ | with_reducible refine then_r ?_ | with_reducible refine then_e ?_ | with_reducible refine then_g ?_ | with_reducible refine inB_n ?_ | with_reducible refine inB_r ?_ | with_reducible refine inB_e ?_ | with_reducible refine inB_o rfl ?_ | with_reducible refine inB_g ?_ | with_reducible refine Leads.go (by assumption) ?_)
    simp [*]
    have hr : rest l2 l = l2 := List.filter_eq_self.2 fun x hx => by simp [hall x hx]
    exact ⟨by rw [hr], ⟨L2, ha, by rw [hr]; exact hL2⟩, fun _ _ => rfl, rfl⟩
end Go.Pv
