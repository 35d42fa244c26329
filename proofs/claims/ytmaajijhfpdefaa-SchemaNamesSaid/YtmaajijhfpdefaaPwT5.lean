/- Functions of the program, walked. -/
import Derived.Test.YtmaajijhfpdefaaPwT4
namespace Go.Pw
open Go.Proofs
theorem mixedO : Try.prog.follows .mixedOrders = true := by kernel_rfl
def sameB (a b : List ByteArray) : Bool := decide (a.map (·.data) = b.map (·.data))
theorem take_same {α : Type} {a b : List α} (hl : a.length = b.length) (h : a.take a.length = b.take a.length) : a = b := by
  rw [List.take_length, hl, List.take_length] at h; exact h
theorem take_step {α : Type} {a b : List α} {k : Nat} {x y : α} (ha : a[k]? = some x) (hb : b[k]? = some y) (h : a.take k = b.take k) (e : x = y) : a.take (k + 1) = b.take (k + 1) := by
  rw [List.take_add_one, List.take_add_one, ha, hb, h, e]

set_option maxRecDepth 100000 in
theorem same_spec (g1 e1 g2 e2 : Nat) (a b : List ByteArray) (H : Heap) (ha : a.length ≤ 140737488351232) (hb : b.length ≤ 140737488351232) (h1 : a = [] ∨ e1 = 9) (h2 : b = [] ∨ e2 = 9) :
    PCalls Try.prog 20 [.slice g1 e1 (a.map txD), .slice g2 e2 (b.map txD)] H fun d H' => d = .val (.bool (sameB a b)) ∧ H' = H := by
  refine PCalls.of_pwp Try.call20 Try.func20 rfl (by simp [Try.ntmps20]) ?_
  rw [Try.ntmps20]
  repeat refine seq_k fun K hK => ?_
  refine region_k rfl fun K1 hK1 => ?_
  simp
  refine hK1 _ (hK _ ?_)
  clear hK1 hK K K1
  repeat refine seq_k fun K hK => ?_
  refine region_k rfl fun K1 hK1 => ?_
  simp
  refine hK1 _ (hK _ ?_)
  clear hK1 hK K K1
  refine cond_b (by simp) (fun h => ?_) (fun h => ?_)
  · repeat refine seq_k fun K hK => ?_
    refine region_k rfl fun K1 hK1 => ?_
    simp
    refine hK1 _ (hK _ ?_)
    clear hK1 hK K K1
    simp at h
    refine pwp_ret ?_
    simp only [thenP_ret, inBlockP_ret, retPost, resultsD, results1, tupD]
    refine ⟨H, Ext.refl H, ?_, rfl⟩
    show D.val (.bool false) = _
    unfold sameB
    rw [decide_eq_false]
    intro e
    apply h
    have := congrArg List.length e
    simp at this
    omega
  · simp at h
    have hlen : a.length = b.length := by omega
    refine pwp_skip ?_
    refine hK _ ?_
    clear hK K
    repeat refine seq_k fun K hK => ?_
    refine region_k rfl fun K1 hK1 => ?_
    simp
    refine hK1 _ (hK _ ?_)
    clear hK1 hK K K1
    refine pwp_block (pwp_loop (fun m st => ∃ k, k ≤ a.length ∧ m = a.length - k ∧ st.env 0 = .slice g1 e1 (a.map txD) ∧ st.env 1 = .slice g2 e2 (b.map txD) ∧ st.env 5 = .val (.int .i64 k) ∧ st.H = H ∧ (a.map (·.data)).take k = (b.map (·.data)).take k) a.length ?_ ?_)
    · exact ⟨0, by omega, by omega, by simp, by simp, by simp, rfl, by simp⟩
    · rintro m st ⟨k, hk, rfl, e0, e1', e5, eH, eq⟩
      repeat refine seq_k fun K hK => ?_
      refine region_k rfl fun K1 hK1 => ?_
      simp [e0, e5]
      refine hK1 _ (hK _ ?_)
      clear hK1 hK K K1
      repeat refine seq_k fun K hK => ?_
      refine cond_b (by simp) (fun h => ?_) (fun h => ?_)
      · simp at h
        refine pwp_skip ?_
        refine hK _ ?_
        clear hK K
        have hb' : k < b.length := by omega
        obtain ⟨x, hx⟩ : ∃ x, a[k]? = some x := ⟨a[k], List.getElem?_eq_getElem _⟩
        obtain ⟨y, hy⟩ : ∃ y, b[k]? = some y := ⟨b[k], List.getElem?_eq_getElem _⟩
        have hx' : ∀ h, a[k]'h = x := fun h => (List.getElem?_eq_some_iff.1 hx).2
        have hy' : ∀ h, b[k]'h = y := fun h => (List.getElem?_eq_some_iff.1 hy).2
        obtain rfl : e1 = 9 := by rcases h1 with rfl | rfl; simp at h; rfl
        obtain rfl : e2 = 9 := by rcases h2 with rfl | rfl; simp at hb'; rfl
        refine seq_k fun K hK => pwp_block ?_
        repeat refine seq_k fun K hK => ?_
        refine region_draw_k mixedO rfl (by kernel_rfl) fun K1 hK1 => ?_
        simp [e0, e1', e5, hx', hy', h, hb', txD]
        refine hK1 _ (hK _ ?_)
        clear hK1 hK K K1
        have hd : x.data = y.data → (a.map (·.data)).take (k + 1) = (b.map (·.data)).take (k + 1) := fun e => take_step (x := x.data) (y := y.data) (by simp [hx]) (by simp [hy]) eq e
        refine cond_b (by simp) (fun h => ?_) (fun h => ?_)
        · simp at h
          repeat refine seq_k fun K hK => ?_
          refine region_k rfl fun K1 hK1 => ?_
          simp
          refine hK1 _ (hK _ ?_)
          clear hK1 hK K K1
          refine pwp_ret ?_
          simp only [thenP_ret, inBlockP_ret, retPost, resultsD, results1, tupD]
          refine ⟨H, by rw [← eH]; exact Ext.refl _, ?_, rfl⟩
          show D.val (.bool false) = _
          unfold sameB
          rw [decide_eq_false]
          intro e
          apply h
          have := congrArg (fun l => l[k]?) e
          simpa [hx, hy] using this
        · simp at h
          refine pwp_skip (hK _ ?_)
          refine region_k rfl fun K1 hK1 => ?_
          simp [e5]
          refine hK1 _ ⟨a.length - (k + 1), by omega, k + 1, by omega, rfl, ?_⟩
          have hw := wrapSucc k (by omega)
          simp [e0, e1', hw, eH]
          simpa using hd h
      · have hk : k = a.length := by simp at h; omega
        subst hk
        refine pwp_exit ?_
        simp
        clear hK K
        refine hK _ ?_
        clear hK K
        repeat refine seq_k fun K hK => ?_
        refine region_k rfl fun K1 hK1 => ?_
        simp
        refine hK1 _ (hK _ ?_)
        clear hK1 hK K K1
        refine pwp_ret ?_
        simp only [thenP_ret, inBlockP_ret, retPost, resultsD, results1, tupD]
        refine ⟨H, by rw [← eH]; exact Ext.refl _, ?_, rfl⟩
        show D.val (.bool true) = _
        unfold sameB
        rw [decide_eq_true]
        exact take_same (by simpa using hlen) (by simpa using eq)

theorem slD_form (l : List ByteArray) : ∃ g e, slD l = .slice g e (l.map txD) ∧ (l = [] ∨ e = 9) := by
  cases l with
  | nil => exact ⟨1, 0, rfl, .inl rfl⟩
  | cons s l => exact ⟨0, 9, rfl, .inr rfl⟩
theorem same_slD (a b : List ByteArray) (H : Heap) (ha : a.length ≤ 1000) (hb : b.length ≤ 1000) : PCalls Try.prog 20 [slD a, slD b] H fun d H' => d = .val (.bool (sameB a b)) ∧ H' = H := by
  obtain ⟨g1, e1, h1, q1⟩ := slD_form a
  obtain ⟨g2, e2, h2, q2⟩ := slD_form b
  rw [h1, h2]
  exact same_spec g1 e1 g2 e2 a b H (by omega) (by omega) q1 q2
def classB (a b : ClassT) : Bool := decide (a.n.data = b.n.data) && decide (a.o.data = b.o.data) && decide (a.s.data = b.s.data) && decide (a.k = b.k) && sameB a.must b.must && sameB a.may b.may
set_option maxRecDepth 100000 in
theorem class_spec (a b : ClassT) (H : Heap) (h1 : a.must.length ≤ 1000) (h2 : a.may.length ≤ 1000) (h3 : b.must.length ≤ 1000) (h4 : b.may.length ≤ 1000) :
    PCalls Try.prog 16 [a.row, b.row] H fun d H' => d = .val (.bool (classB a b)) ∧ H' = H := by
  refine PCalls.of_pwp Try.call16 Try.func16 rfl (by simp [Try.ntmps16]) ?_
  rw [Try.ntmps16]
  repeat refine seq_k fun K hK => ?_
  refine region_k rfl fun K1 hK1 => ?_
  simp [ClassT.row]
  refine box_obj (by simp) ?_
  simp
  refine box_obj (by simp) ?_
  simp
  refine hK1 _ (hK _ ?_)
  clear hK1 hK K K1
  have fin : ∀ (st : PSt), st.env 4 = .val (.bool (classB a b)) → st.H = H → pwp Try.prog 45 .ret (retPost Try.prog Try.f16 fun d H' => d = .val (.bool (classB a b)) ∧ H' = H) st := by
    intro st e4 eH
    refine pwp_ret ?_
    simp only [thenP_ret, inBlockP_ret, retPost, resultsD, results1, tupD]
    exact ⟨H, by rw [eH]; exact Ext.refl _, e4, rfl⟩
  repeat refine seq_k fun K hK => ?_
  refine region_k rfl fun K1 hK1 => ?_
  simp
  by_cases c1 : a.n.data = b.n.data
  · have c1 := eq_true c1
    simp [c1]
    by_cases c2 : a.o.data = b.o.data
    · have c2 := eq_true c2
      simp [c2]
      by_cases c3 : a.s.data = b.s.data
      · have c3 := eq_true c3
        simp [c3]
        by_cases c4 : a.k = b.k
        · have c4' := eq_true c4
          simp [c4']
          refine PCalls.mono (same_slD a.must b.must _ h1 h3) ?_
          rintro _ _ ⟨rfl, rfl⟩
          simp
          cases c5 : sameB a.must b.must
          · simp
            exact hK1 _ (hK _ (fin _ (by simp [classB, c5]) rfl))
          · simp
            refine PCalls.mono (same_slD a.may b.may _ h2 h4) ?_
            rintro _ _ ⟨rfl, rfl⟩
            simp
            exact hK1 _ (hK _ (fin _ (by simp [classB, c1, c2, c3, c4, c5]) rfl))
        · have c4' := eq_false c4
          simp [c4']
          exact hK1 _ (hK _ (fin _ (by simp [classB, c4']) rfl))
      · have c3 := eq_false c3
        simp [c3]
        exact hK1 _ (hK _ (fin _ (by simp [classB, c3]) rfl))
    · have c2 := eq_false c2
      simp [c2]
      exact hK1 _ (hK _ (fin _ (by simp [classB, c2]) rfl))
  · have c1 := eq_false c1
    simp [c1]
    exact hK1 _ (hK _ (fin _ (by simp [classB, c1]) rfl))
end Go.Pw
