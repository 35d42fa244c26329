/- A part of the proof: functions of the program, walked, or what operations come to. -/
import Derived.Test.YtmaajijhfpdefaaPvS17
import Derived.Sort.Walk0
namespace Go.Pv
open Go.Proofs
attribute [local simp] Try.underlying29 strD Heap.new_get Heap.put_get eBuildSlice
@[simp] theorem res33 : Try.f33.results.toList = [.tmp 4] := rfl
/-! ### put -/
def cutK (l : List Bs) (s : Bs) : Nat := (l.takeWhile fun x => decide (x < s)).length
def putL (l : List Bs) (s : Bs) : List Bs := if s ∈ l then l else l.take (cutK l s) ++ [s] ++ l.drop (cutK l s)
theorem cutK_le (l : List Bs) (s : Bs) : cutK l s ≤ l.length := (List.takeWhile_prefix _).length_le
theorem cutK_lt {l : List Bs} {s : Bs} {k : Nat} {c : Bs} (hk : k < cutK l s) (hc : l[k]? = some c) : c < s := by
  have h1 : (l.takeWhile fun x => decide (x < s))[k]? = some c := by
    rw [← hc]
    have hp := List.takeWhile_prefix (fun x => decide (x < s)) (l := l)
    obtain ⟨r, hr⟩ := hp
    conv => rhs; rw [← hr]
    rw [List.getElem?_append_left hk]
  have h2 := List.mem_of_getElem? h1
  have := List.all_eq_true.1 List.all_takeWhile c h2
  simpa using this
theorem cutK_ge {l : List Bs} {s : Bs} {c : Bs} (hc : l[cutK l s]? = some c) : ¬ c < s := by
  intro q
  induction l with
  | nil => simp at hc
  | cons a l ih =>
    unfold cutK at hc
    rw [List.takeWhile_cons] at hc
    split at hc
    · rw [List.length_cons, List.getElem?_cons_succ] at hc
      exact ih hc
    · rename_i h
      simp at hc
      subst hc
      exact h (by simpa using q)
theorem own_app {H : Heap} {d : D} {A : List D} (N : List D) (h : Own H d A) (hb : (A.length + N.length) * 16 ≤ 140737488355328) : ∃ r H1, appK 9 16 d (some N) H = some (r, H1) ∧ Own H1 r (A ++ N) ∧ H.nx ≤ H1.nx ∧ ∀ j, j < H.nx → (∀ i a, d = .row i 9 0 a → j ≠ i) → H1.get j = H.get j := by
  obtain ⟨i, hi, rfl, hH⟩ := h
  by_cases hN : N = []
  · subst hN
    exact ⟨_, _, rfl, ⟨i, hi, by simp, by simpa using hH⟩, Nat.le_refl _, fun _ _ _ => rfl⟩
  · refine ⟨.row H.nx 9 0 (A.length + N.length), (H.put i none).new (.row 9 (A ++ N)), by simp [appK, isSliceD, hN, onto, hH, hb], ⟨H.nx, by simp, by simp, Heap.new_same (H.put i none) _⟩, by simp, fun j hj hne => ?_⟩
    rw [Heap.new_ne _ _ (by simp; omega), Heap.put_ne _ _ (hne i _ rfl)]
theorem own_new {H : Heap} {d : D} {A : List D} (h : Own H d A) (o : PObj) : Own (H.new o) d A := by
  obtain ⟨i, hi, rfl, hH⟩ := h
  exact ⟨i, by simp; omega, rfl, by rw [Heap.new_ne _ _ (by omega)]; exact hH⟩
/-- The operations in an order, what follows out of sight. -/
def plistN (P : Program) (ops : Array Oper) (K : PSt → Prop) (p : List Nat) : PSt → Prop := plist P ops K p
@[simp] theorem plistN_nil {P : Program} {ops : Array Oper} {K : PSt → Prop} (st : PSt) : plistN P ops K [] st = K st := propext Iff.rfl
@[simp] theorem plistN_cons {P : Program} {ops : Array Oper} {K : PSt → Prop} (i : Nat) (rest : List Nat) (st : PSt) : plistN P ops K (i :: rest) st = match ops[i]? with
    | none => plistN P ops K rest st
    | some o => pops P ops [o] (plistN P ops K rest) st := propext Iff.rfl
theorem region_orders_k {P : Program} {n : Nat} {Q : Exit → PSt → Prop} {st : PSt} (hm : P.follows .mixedOrders = true) (F : List (List Nat)) {id : Nat} {ops : List Oper} (hok : ordersOk P ops F = true)
    (h : ∀ K : PSt → Prop, Leads (fun st => Q .normal st) K → ∀ p ∈ F, plistN P ops.toArray K p st) : pwp P n (.region id ops.toArray true) Q st :=
  pwp_region_orders hm hok (h _ fun _ h => h)
set_option maxHeartbeats 4000000 in
set_option maxRecDepth 100000 in
theorem put_local (g : Nat) (e : TypeId) (l : List Bs) (s : Bs) (he : l = [] ∨ e = 9) (hl : l.length ≤ 100000) : PCalls Try.prog 33 [.slice g e (lb l), .val (encStr s)] (noHeap noG) fun d H' => ∃ r, fz Try.prog 20 H' d = some r ∧ strsD (putL l s) r := by
  refine PCalls.of_pwp Try.call33 Try.func33 rfl (by simp [Try.ntmps33]) ?_
  rw [Try.ntmps33]
  have hh := hasR_spec g e l s he hl
  by_cases hm : s ∈ l
  · have hp : putL l s = l := by rw [putL, if_pos hm]
    repeat (first | with_reducible refine seq_k fun K hK => ?_ | (with_reducible refine region_k fun K hK => ?_; simp [*]) | (with_reducible refine region_draw_k mixedO (by decide +kernel) fun K hK => ?_; simp [*]) | with_reducible refine pwp_block ?_ | with_reducible refine pwp_skip ?_ | with_reducible refine pwp_ret ?_ | with_reducible refine pwp_exit ?_ | (with_reducible refine cond_t ?_ ?_; (focus (simp [*]; done))) | (with_reducible refine cond_f ?_ ?_; (focus (simp [*]; done))) | with_reducible refine then_n ?_ | with_reducible refine then_r ?_ | with_reducible refine then_e ?_ | with_reducible refine then_g ?_ | with_reducible refine inB_n ?_ | with_reducible refine inB_r ?_ | with_reducible refine inB_e ?_ | with_reducible refine inB_o rfl ?_ | with_reducible refine inB_g ?_ | with_reducible refine Leads.go (by assumption) ?_)
    refine PCalls.mono (hh _) ?_
    rintro _ _ ⟨rfl, rfl⟩
    clear hh
    rw [show decide (s ∈ l) = true by simpa using hm]
    try simp [*]
    repeat (first | with_reducible refine seq_k fun K hK => ?_ | (with_reducible refine region_k fun K hK => ?_; simp [*]) | (with_reducible refine region_draw_k mixedO (by decide +kernel) fun K hK => ?_; simp [*]) | with_reducible refine pwp_block ?_ | with_reducible refine pwp_skip ?_ | with_reducible refine pwp_ret ?_ | with_reducible refine pwp_exit ?_ | (with_reducible refine cond_t ?_ ?_; (focus (simp [*]; done))) | (with_reducible refine cond_f ?_ ?_; (focus (simp [*]; done))) | with_reducible refine then_n ?_ | with_reducible refine then_r ?_ | with_reducible refine then_e ?_ | with_reducible refine then_g ?_ | with_reducible refine inB_n ?_ | with_reducible refine inB_r ?_ | with_reducible refine inB_e ?_ | with_reducible refine inB_o rfl ?_ | with_reducible refine inB_g ?_ | with_reducible refine Leads.go (by assumption) ?_)
    simp [*]
    exact ⟨_, by rw [fz, fz_lb 18], g, e, rfl, he⟩
  · have hp : putL l s = l.take (cutK l s) ++ [s] ++ l.drop (cutK l s) := by rw [putL, if_neg hm]
    have hk1 := cutK_le l s
    repeat (first | with_reducible refine seq_k fun K hK => ?_ | (with_reducible refine region_k fun K hK => ?_; simp [*]) | (with_reducible refine region_draw_k mixedO (by decide +kernel) fun K hK => ?_; simp [*]) | with_reducible refine pwp_block ?_ | with_reducible refine pwp_skip ?_ | with_reducible refine pwp_ret ?_ | with_reducible refine pwp_exit ?_ | (with_reducible refine cond_t ?_ ?_; (focus (simp [*]; done))) | (with_reducible refine cond_f ?_ ?_; (focus (simp [*]; done))) | with_reducible refine then_n ?_ | with_reducible refine then_r ?_ | with_reducible refine then_e ?_ | with_reducible refine then_g ?_ | with_reducible refine inB_n ?_ | with_reducible refine inB_r ?_ | with_reducible refine inB_e ?_ | with_reducible refine inB_o rfl ?_ | with_reducible refine inB_g ?_ | with_reducible refine Leads.go (by assumption) ?_)
    refine PCalls.mono (hh _) ?_
    rintro _ _ ⟨rfl, rfl⟩
    clear hh
    rw [show decide (s ∈ l) = false by simpa using hm]
    try simp [*]
    repeat (first | with_reducible refine seq_k fun K hK => ?_ | (with_reducible refine region_k fun K hK => ?_; simp [*]) | (with_reducible refine region_draw_k mixedO (by decide +kernel) fun K hK => ?_; simp [*]) | with_reducible refine pwp_block ?_ | with_reducible refine pwp_skip ?_ | with_reducible refine pwp_ret ?_ | with_reducible refine pwp_exit ?_ | (with_reducible refine cond_t ?_ ?_; (focus (simp [*]; done))) | (with_reducible refine cond_f ?_ ?_; (focus (simp [*]; done))) | with_reducible refine then_n ?_ | with_reducible refine then_r ?_ | with_reducible refine then_e ?_ | with_reducible refine then_g ?_ | with_reducible refine inB_n ?_ | with_reducible refine inB_r ?_ | with_reducible refine inB_e ?_ | with_reducible refine inB_o rfl ?_ | with_reducible refine inB_g ?_ | with_reducible refine Leads.go (by assumption) ?_)
    refine pwp_for (cutK l s) (fun k st => st.env.n = 36 ∧ st.df = [] ∧ st.H = noHeap noG ∧ slots st.env [(0, .slice g e (lb l)), (1, .val (.string ⟨s.toArray⟩)), (5, .val (.int .i64 k))]) ?_ ?_ ?_
    · simp
    · rintro k ⟨E, H, df⟩ h ⟨en, edf, eH, ⟨e0, e1, e5, -⟩⟩
      simp only at en edf eH e0 e1 e5
      subst edf; subst eH
      have hki : (k : Int) < (l.length : Int) := by omega
      have hkl : k < l.length := by omega
      obtain ⟨c, hc⟩ : ∃ c, l[k]? = some c := ⟨_, List.getElem?_eq_getElem hkl⟩
      have hlt : Op.bytesLess c s = true := by rw [bytesLess_eq]; simpa using cutK_lt h hc
      have hL := lb_get hc
      have hge := get_of hL
      have hLl : (lb l).length = l.length := lb_len l
      obtain rfl : e = 9 := he.resolve_left (fun q => by subst q; simp at hkl)
      have hw := wrapSucc k (by omega)
      generalize lb l = L at *
      clear hp
      repeat (first | with_reducible refine seq_k fun K hK => ?_ | (with_reducible refine region_k fun K hK => ?_; simp [*]) | (with_reducible refine region_draw_k mixedO (by decide +kernel) fun K hK => ?_; simp [*]) | with_reducible refine pwp_block ?_ | with_reducible refine pwp_skip ?_ | with_reducible refine pwp_ret ?_ | with_reducible refine pwp_exit ?_ | (with_reducible refine cond_t ?_ ?_; (focus (simp [*]; done))) | (with_reducible refine cond_f ?_ ?_; (focus (simp [*]; done))) | with_reducible refine then_n ?_ | with_reducible refine then_r ?_ | with_reducible refine then_e ?_ | with_reducible refine then_g ?_ | with_reducible refine inB_n ?_ | with_reducible refine inB_r ?_ | with_reducible refine inB_e ?_ | with_reducible refine inB_o rfl ?_ | with_reducible refine inB_g ?_ | with_reducible refine Leads.go (by assumption) ?_)
      refine ⟨by simp [*], rfl, rfl, by simp [*]⟩
    · rintro ⟨E, H, df⟩ ⟨en, edf, eH, ⟨e0, e1, e5, -⟩⟩
      simp only at en edf eH e0 e1 e5
      subst edf; subst eH
      have hki0 : (cutK l s : Int) ≤ (l.length : Int) := by omega
      have hki1 : ¬ (l.length < cutK l s) := by omega
      have he9 : ∀ N : List D, (9 = e ∨ lb l = []) := fun _ => he.symm.imp Eq.symm (fun q => by rw [q]; rfl)
      have hL2 : (if 9 = e ∨ lb l = [] then some (lb l) else none) = some (lb l) := if_pos (he9 [])
      have kp := Hold.mk hp
      have hLl : (lb l).length = l.length := lb_len l
      have ht : lb (l.take (cutK l s)) = (lb l).take (cutK l s) := by rw [lb, lb, List.map_take]
      have hd : lb (l.drop (cutK l s)) = (lb l).drop (cutK l s) := by rw [lb, lb, List.map_drop]
      have hcut : Hold ((lb l).take (cutK l s) ++ [D.val (.string ⟨s.toArray⟩)] ++ (lb l).drop (cutK l s) = lb (putL l s)) := ⟨by
        rw [hp, ← ht, ← hd]; simp [lb]⟩
      clear hp ht hd
      by_cases hkl : cutK l s < l.length
      · have hki : (cutK l s : Int) < (l.length : Int) := by omega
        obtain ⟨c, hc⟩ : ∃ c, l[cutK l s]? = some c := ⟨_, List.getElem?_eq_getElem hkl⟩
        have hlt : Op.bytesLess c s = false := by rw [bytesLess_eq]; simpa using cutK_ge hc
        have hL := lb_get hc
        have hge := get_of hL
        obtain rfl : e = 9 := he.resolve_left (fun q => by subst q; simp at hkl)
        generalize cutK l s = kk at *
        generalize lb l = L at *
        have htl : L.take l.length = L := List.take_of_length_le (by omega)
        clear he9 hL2
        repeat (first | with_reducible refine seq_k fun K hK => ?_ | (with_reducible refine region_k fun K hK => ?_; simp [*]) | (with_reducible refine region_draw_k mixedO (by decide +kernel) fun K hK => ?_; simp [*]) | with_reducible refine pwp_block ?_ | with_reducible refine pwp_skip ?_ | with_reducible refine pwp_ret ?_ | with_reducible refine pwp_exit ?_ | (with_reducible refine cond_t ?_ ?_; (focus (simp [*]; done))) | (with_reducible refine cond_f ?_ ?_; (focus (simp [*]; done))) | with_reducible refine then_n ?_ | with_reducible refine then_r ?_ | with_reducible refine then_e ?_ | with_reducible refine then_g ?_ | with_reducible refine inB_n ?_ | with_reducible refine inB_r ?_ | with_reducible refine inB_e ?_ | with_reducible refine inB_o rfl ?_ | with_reducible refine inB_g ?_ | with_reducible refine Leads.go (by assumption) ?_)
        refine region_orders_k mixedO [[0,1,2,3,4,5,6,7,8,9,10,11,12],[0,5,6,1,2,3,4,7,8,9,10,11,12],[5,6,0,1,2,3,4,7,8,9,10,11,12]] (by decide +kernel) fun K1 hK1 p hp => ?_
        simp only [List.mem_cons, List.mem_nil_iff, or_false] at hp
        rcases hp with rfl | rfl | rfl
        · simp [*]
          obtain ⟨r1, H1, k1, o1, n1, f1⟩ := own_app (H := (noHeap noG).new (.row 9 [])) (d := .row (noHeap noG).nx 9 0 0) (A := []) (L.take kk) ⟨_, by simp, rfl, Heap.new_same _ _⟩ (by simp; omega)
          rw [List.nil_append] at o1
          simp [k1, *]
          obtain ⟨r2, H2, k2, o2, n2, f2⟩ := own_app [D.val (.string ⟨s.toArray⟩)] (own_new o1 (.row 9 [D.val (.string ⟨s.toArray⟩)])) (by simp; omega)
          simp [k2, *]
          obtain ⟨r3, H3, k3, o3, n3, f3⟩ := own_app (L.drop kk) o2 (by simp; omega)
          simp [k3, *]
          rw [hcut.out] at o3
          clear k1 k2 k3 o1 o2 f1 f2 f3
          repeat (first | with_reducible refine seq_k fun K hK => ?_ | (with_reducible refine region_k fun K hK => ?_; simp [*]) | (with_reducible refine region_draw_k mixedO (by decide +kernel) fun K hK => ?_; simp [*]) | with_reducible refine pwp_block ?_ | with_reducible refine pwp_skip ?_ | with_reducible refine pwp_ret ?_ | with_reducible refine pwp_exit ?_ | (with_reducible refine cond_t ?_ ?_; (focus (simp [*]; done))) | (with_reducible refine cond_f ?_ ?_; (focus (simp [*]; done))) | with_reducible refine then_n ?_ | with_reducible refine then_r ?_ | with_reducible refine then_e ?_ | with_reducible refine then_g ?_ | with_reducible refine inB_n ?_ | with_reducible refine inB_r ?_ | with_reducible refine inB_e ?_ | with_reducible refine inB_o rfl ?_ | with_reducible refine inB_g ?_ | with_reducible refine Leads.go (by assumption) ?_)
          obtain ⟨i, hi, rfl, hH⟩ := o3
          rw [lb_len]
          have hz := fz_strow (P := Try.prog) 18 (u := putL l s) hH (by rw [← lb_len (putL l s)]; exact List.take_length)
          clear hH
          simp [*]
          exact ⟨_, _, rfl, .inr rfl⟩
        · simp [*]
          obtain ⟨r1, H1, k1, o1, n1, f1⟩ := own_app (H := ((noHeap noG).new (.row 9 [])).new (.row 9 [D.val (.string ⟨s.toArray⟩)])) (d := .row (noHeap noG).nx 9 0 0) (A := []) (L.take kk) ⟨_, by simp; omega, rfl, by rw [Heap.new_ne _ _ (by simp), Heap.new_same]⟩ (by simp; omega)
          rw [List.nil_append] at o1
          have hb : H1.get ((noHeap noG).nx + 1) = some (.row 9 [D.val (.string ⟨s.toArray⟩)]) := (f1 _ (by simp) (fun i a q => by cases q; omega)).trans (Heap.new_same ((noHeap noG).new (.row 9 [])) _)
          simp [k1, *]
          obtain ⟨r2, H2, k2, o2, n2, f2⟩ := own_app [D.val (.string ⟨s.toArray⟩)] o1 (by simp; omega)
          simp [k2, *]
          obtain ⟨r3, H3, k3, o3, n3, f3⟩ := own_app (L.drop kk) o2 (by simp; omega)
          simp [k3, *]
          rw [hcut.out] at o3
          clear k1 k2 k3 o1 o2 f1 f2 f3 hb
          repeat (first | with_reducible refine seq_k fun K hK => ?_ | (with_reducible refine region_k fun K hK => ?_; simp [*]) | (with_reducible refine region_draw_k mixedO (by decide +kernel) fun K hK => ?_; simp [*]) | with_reducible refine pwp_block ?_ | with_reducible refine pwp_skip ?_ | with_reducible refine pwp_ret ?_ | with_reducible refine pwp_exit ?_ | (with_reducible refine cond_t ?_ ?_; (focus (simp [*]; done))) | (with_reducible refine cond_f ?_ ?_; (focus (simp [*]; done))) | with_reducible refine then_n ?_ | with_reducible refine then_r ?_ | with_reducible refine then_e ?_ | with_reducible refine then_g ?_ | with_reducible refine inB_n ?_ | with_reducible refine inB_r ?_ | with_reducible refine inB_e ?_ | with_reducible refine inB_o rfl ?_ | with_reducible refine inB_g ?_ | with_reducible refine Leads.go (by assumption) ?_)
          obtain ⟨i, hi, rfl, hH⟩ := o3
          rw [lb_len]
          have hz := fz_strow (P := Try.prog) 18 (u := putL l s) hH (by rw [← lb_len (putL l s)]; exact List.take_length)
          clear hH
          simp [*]
          exact ⟨_, _, rfl, .inr rfl⟩
        · simp [*]
          obtain ⟨r1, H1, k1, o1, n1, f1⟩ := own_app (H := ((noHeap noG).new (.row 9 [D.val (.string ⟨s.toArray⟩)])).new (.row 9 [])) (d := .row ((noHeap noG).nx + 1) 9 0 0) (A := []) (L.take kk) ⟨_, by simp, rfl, Heap.new_same ((noHeap noG).new (.row 9 [D.val (.string ⟨s.toArray⟩)])) _⟩ (by simp; omega)
          rw [List.nil_append] at o1
          have hb : H1.get (noHeap noG).nx = some (.row 9 [D.val (.string ⟨s.toArray⟩)]) := (f1 _ (by simp; omega) (fun i a q => by cases q; omega)).trans (by rw [Heap.new_ne _ _ (by simp), Heap.new_same])
          simp [k1, *]
          obtain ⟨r2, H2, k2, o2, n2, f2⟩ := own_app [D.val (.string ⟨s.toArray⟩)] o1 (by simp; omega)
          simp [k2, *]
          obtain ⟨r3, H3, k3, o3, n3, f3⟩ := own_app (L.drop kk) o2 (by simp; omega)
          simp [k3, *]
          rw [hcut.out] at o3
          clear k1 k2 k3 o1 o2 f1 f2 f3 hb
          repeat (first | with_reducible refine seq_k fun K hK => ?_ | (with_reducible refine region_k fun K hK => ?_; simp [*]) | (with_reducible refine region_draw_k mixedO (by decide +kernel) fun K hK => ?_; simp [*]) | with_reducible refine pwp_block ?_ | with_reducible refine pwp_skip ?_ | with_reducible refine pwp_ret ?_ | with_reducible refine pwp_exit ?_ | (with_reducible refine cond_t ?_ ?_; (focus (simp [*]; done))) | (with_reducible refine cond_f ?_ ?_; (focus (simp [*]; done))) | with_reducible refine then_n ?_ | with_reducible refine then_r ?_ | with_reducible refine then_e ?_ | with_reducible refine then_g ?_ | with_reducible refine inB_n ?_ | with_reducible refine inB_r ?_ | with_reducible refine inB_e ?_ | with_reducible refine inB_o rfl ?_ | with_reducible refine inB_g ?_ | with_reducible refine Leads.go (by assumption) ?_)
          obtain ⟨i, hi, rfl, hH⟩ := o3
          rw [lb_len]
          have hz := fz_strow (P := Try.prog) 18 (u := putL l s) hH (by rw [← lb_len (putL l s)]; exact List.take_length)
          clear hH
          simp [*]
          exact ⟨_, _, rfl, .inr rfl⟩
      · have hke : cutK l s = l.length := by omega
        have hki : ¬ ((cutK l s : Int) < (l.length : Int)) := by omega
        have h9 : 9 = e ∨ lb l = [] := he9 []
        clear he9 hL2
        generalize cutK l s = kk at *
        generalize lb l = L at *
        have htl : L.take l.length = L := List.take_of_length_le (by omega)
        have hkL : kk ≤ L.length := by omega
        clear hke
        repeat (first | with_reducible refine seq_k fun K hK => ?_ | (with_reducible refine region_k fun K hK => ?_; simp [*]) | (with_reducible refine region_draw_k mixedO (by decide +kernel) fun K hK => ?_; simp [*]) | with_reducible refine pwp_block ?_ | with_reducible refine pwp_skip ?_ | with_reducible refine pwp_ret ?_ | with_reducible refine pwp_exit ?_ | (with_reducible refine cond_t ?_ ?_; (focus (simp [*]; done))) | (with_reducible refine cond_f ?_ ?_; (focus (simp [*]; done))) | with_reducible refine then_n ?_ | with_reducible refine then_r ?_ | with_reducible refine then_e ?_ | with_reducible refine then_g ?_ | with_reducible refine inB_n ?_ | with_reducible refine inB_r ?_ | with_reducible refine inB_e ?_ | with_reducible refine inB_o rfl ?_ | with_reducible refine inB_g ?_ | with_reducible refine Leads.go (by assumption) ?_)
        refine region_orders_k mixedO [[0,1,2,3,4,5,6,7,8,9,10,11,12],[0,5,6,1,2,3,4,7,8,9,10,11,12],[5,6,0,1,2,3,4,7,8,9,10,11,12]] (by decide +kernel) fun K1 hK1 p hp => ?_
        simp only [List.mem_cons, List.mem_nil_iff, or_false] at hp
        rcases hp with rfl | rfl | rfl
        · simp [*]
          obtain ⟨r1, H1, k1, o1, n1, f1⟩ := own_app (H := (noHeap noG).new (.row 9 [])) (d := .row (noHeap noG).nx 9 0 0) (A := []) (L.take kk) ⟨_, by simp, rfl, Heap.new_same _ _⟩ (by simp; omega)
          rw [List.nil_append] at o1
          simp [k1, *]
          obtain ⟨r2, H2, k2, o2, n2, f2⟩ := own_app [D.val (.string ⟨s.toArray⟩)] (own_new o1 (.row 9 [D.val (.string ⟨s.toArray⟩)])) (by simp; omega)
          simp [k2, *]
          obtain ⟨r3, H3, k3, o3, n3, f3⟩ := own_app (L.drop kk) o2 (by simp; omega)
          simp [k3, *]
          rw [hcut.out] at o3
          clear k1 k2 k3 o1 o2 f1 f2 f3
          repeat (first | with_reducible refine seq_k fun K hK => ?_ | (with_reducible refine region_k fun K hK => ?_; simp [*]) | (with_reducible refine region_draw_k mixedO (by decide +kernel) fun K hK => ?_; simp [*]) | with_reducible refine pwp_block ?_ | with_reducible refine pwp_skip ?_ | with_reducible refine pwp_ret ?_ | with_reducible refine pwp_exit ?_ | (with_reducible refine cond_t ?_ ?_; (focus (simp [*]; done))) | (with_reducible refine cond_f ?_ ?_; (focus (simp [*]; done))) | with_reducible refine then_n ?_ | with_reducible refine then_r ?_ | with_reducible refine then_e ?_ | with_reducible refine then_g ?_ | with_reducible refine inB_n ?_ | with_reducible refine inB_r ?_ | with_reducible refine inB_e ?_ | with_reducible refine inB_o rfl ?_ | with_reducible refine inB_g ?_ | with_reducible refine Leads.go (by assumption) ?_)
          obtain ⟨i, hi, rfl, hH⟩ := o3
          rw [lb_len]
          have hz := fz_strow (P := Try.prog) 18 (u := putL l s) hH (by rw [← lb_len (putL l s)]; exact List.take_length)
          clear hH
          simp [*]
          exact ⟨_, _, rfl, .inr rfl⟩
        · simp [*]
          obtain ⟨r1, H1, k1, o1, n1, f1⟩ := own_app (H := ((noHeap noG).new (.row 9 [])).new (.row 9 [D.val (.string ⟨s.toArray⟩)])) (d := .row (noHeap noG).nx 9 0 0) (A := []) (L.take kk) ⟨_, by simp; omega, rfl, by rw [Heap.new_ne _ _ (by simp), Heap.new_same]⟩ (by simp; omega)
          rw [List.nil_append] at o1
          have hb : H1.get ((noHeap noG).nx + 1) = some (.row 9 [D.val (.string ⟨s.toArray⟩)]) := (f1 _ (by simp) (fun i a q => by cases q; omega)).trans (Heap.new_same ((noHeap noG).new (.row 9 [])) _)
          simp [k1, *]
          obtain ⟨r2, H2, k2, o2, n2, f2⟩ := own_app [D.val (.string ⟨s.toArray⟩)] o1 (by simp; omega)
          simp [k2, *]
          obtain ⟨r3, H3, k3, o3, n3, f3⟩ := own_app (L.drop kk) o2 (by simp; omega)
          simp [k3, *]
          rw [hcut.out] at o3
          clear k1 k2 k3 o1 o2 f1 f2 f3 hb
          repeat (first | with_reducible refine seq_k fun K hK => ?_ | (with_reducible refine region_k fun K hK => ?_; simp [*]) | (with_reducible refine region_draw_k mixedO (by decide +kernel) fun K hK => ?_; simp [*]) | with_reducible refine pwp_block ?_ | with_reducible refine pwp_skip ?_ | with_reducible refine pwp_ret ?_ | with_reducible refine pwp_exit ?_ | (with_reducible refine cond_t ?_ ?_; (focus (simp [*]; done))) | (with_reducible refine cond_f ?_ ?_; (focus (simp [*]; done))) | with_reducible refine then_n ?_ | with_reducible refine then_r ?_ | with_reducible refine then_e ?_ | with_reducible refine then_g ?_ | with_reducible refine inB_n ?_ | with_reducible refine inB_r ?_ | with_reducible refine inB_e ?_ | with_reducible refine inB_o rfl ?_ | with_reducible refine inB_g ?_ | with_reducible refine Leads.go (by assumption) ?_)
          obtain ⟨i, hi, rfl, hH⟩ := o3
          rw [lb_len]
          have hz := fz_strow (P := Try.prog) 18 (u := putL l s) hH (by rw [← lb_len (putL l s)]; exact List.take_length)
          clear hH
          simp [*]
          exact ⟨_, _, rfl, .inr rfl⟩
        · simp [*]
          obtain ⟨r1, H1, k1, o1, n1, f1⟩ := own_app (H := ((noHeap noG).new (.row 9 [D.val (.string ⟨s.toArray⟩)])).new (.row 9 [])) (d := .row ((noHeap noG).nx + 1) 9 0 0) (A := []) (L.take kk) ⟨_, by simp, rfl, Heap.new_same ((noHeap noG).new (.row 9 [D.val (.string ⟨s.toArray⟩)])) _⟩ (by simp; omega)
          rw [List.nil_append] at o1
          have hb : H1.get (noHeap noG).nx = some (.row 9 [D.val (.string ⟨s.toArray⟩)]) := (f1 _ (by simp; omega) (fun i a q => by cases q; omega)).trans (by rw [Heap.new_ne _ _ (by simp), Heap.new_same])
          simp [k1, *]
          obtain ⟨r2, H2, k2, o2, n2, f2⟩ := own_app [D.val (.string ⟨s.toArray⟩)] o1 (by simp; omega)
          simp [k2, *]
          obtain ⟨r3, H3, k3, o3, n3, f3⟩ := own_app (L.drop kk) o2 (by simp; omega)
          simp [k3, *]
          rw [hcut.out] at o3
          clear k1 k2 k3 o1 o2 f1 f2 f3 hb
          repeat (first | with_reducible refine seq_k fun K hK => ?_ | (with_reducible refine region_k fun K hK => ?_; simp [*]) | (with_reducible refine region_draw_k mixedO (by decide +kernel) fun K hK => ?_; simp [*]) | with_reducible refine pwp_block ?_ | with_reducible refine pwp_skip ?_ | with_reducible refine pwp_ret ?_ | with_reducible refine pwp_exit ?_ | (with_reducible refine cond_t ?_ ?_; (focus (simp [*]; done))) | (with_reducible refine cond_f ?_ ?_; (focus (simp [*]; done))) | with_reducible refine then_n ?_ | with_reducible refine then_r ?_ | with_reducible refine then_e ?_ | with_reducible refine then_g ?_ | with_reducible refine inB_n ?_ | with_reducible refine inB_r ?_ | with_reducible refine inB_e ?_ | with_reducible refine inB_o rfl ?_ | with_reducible refine inB_g ?_ | with_reducible refine Leads.go (by assumption) ?_)
          obtain ⟨i, hi, rfl, hH⟩ := o3
          rw [lb_len]
          have hz := fz_strow (P := Try.prog) 18 (u := putL l s) hH (by rw [← lb_len (putL l s)]; exact List.take_length)
          clear hH
          simp [*]
          exact ⟨_, _, rfl, .inr rfl⟩
end Go.Pv
