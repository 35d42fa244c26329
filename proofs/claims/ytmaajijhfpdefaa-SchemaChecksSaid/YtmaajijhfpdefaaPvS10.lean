/- A part of the proof: functions of the program, walked, or what operations come to. -/
import Derived.Test.YtmaajijhfpdefaaPvS9
namespace Go.Pv
open Go.Proofs
attribute [local simp] Try.underlying29 Try.underlying31 Try.underlying41 Try.underlying46 Heap.new_get Heap.put_get strD
@[simp] theorem res19 : Try.f19.results.toList = [.tmp 4] := rfl
@[simp] theorem res20 : Try.f20.results.toList = [.tmp 4] := rfl
@[simp] theorem res17 : Try.f17.results.toList = [.tmp 2] := rfl
theorem lb_get {l : List (List UInt8)} {k : Nat} {c : List UInt8} (h : l[k]? = some c) : (lb l)[k]? = some (.val (.string ⟨c.toArray⟩)) := by rw [lb, List.getElem?_map, h]; rfl
theorem get_of {α : Type} {l : List α} {k : Nat} {x : α} (h : l[k]? = some x) : ∀ h, l[k]'h = x := fun q => by rw [List.getElem?_eq_getElem q] at h; exact Option.some.inj h
set_option maxHeartbeats 4000000 in
set_option maxRecDepth 100000 in
theorem has_spec (g : Nat) (e : TypeId) (l : List (List UInt8)) (s : List UInt8) (he : l = [] ∨ e = 9) (hl : l.length ≤ 100000) (H : Heap) : PCalls Try.prog 19 [.slice g e (lb l), .val (encStr s)] H fun d H' => d = .val (.bool (decide (s ∈ l))) ∧ H' = H := by
  refine PCalls.of_pwp Try.call19 Try.func19 rfl (by simp [Try.ntmps19]) ?_
  rw [Try.ntmps19]
  repeat (first | with_reducible refine seq_k fun K hK => ?_ | (with_reducible refine region_k fun K hK => ?_; simp [*]) | (with_reducible refine region_draw_k mixedO (by kernel_rfl) fun K hK => ?_; simp [*]) | with_reducible refine pwp_block ?_ | with_reducible refine pwp_skip ?_ | with_reducible refine pwp_ret ?_ | with_reducible refine pwp_exit ?_ | (with_reducible refine cond_t ?_ ?_; (focus (simp [*]; done))) | (with_reducible refine cond_f ?_ ?_; (focus (simp [*]; done))) | with_reducible refine then_n ?_ | with_reducible refine then_r ?_ | with_reducible refine then_e ?_ | with_reducible refine then_g ?_ | with_reducible refine inB_n ?_ | with_reducible refine inB_r ?_ | with_reducible refine inB_e ?_ | with_reducible refine inB_o rfl ?_ | with_reducible refine inB_g ?_ | with_reducible refine Leads.go (by assumption) ?_)
  refine pwp_for l.length (fun k st => st.env.n = 18 ∧ st.df = [] ∧ st.H = H ∧ slots st.env [(0, .slice g e (lb l)), (1, .val (.string ⟨s.toArray⟩)), (5, .val (.int .i64 k))] ∧ s ∉ l.take k) ?_ ?_ ?_
  · simp
  · rintro k ⟨E, H2, df⟩ h ⟨en, edf, eH, ⟨e0, e1, e5, -⟩, eP⟩
    simp only at en edf eH e0 e1 e5
    subst edf; subst eH
    have hki : (k : Int) < (l.length : Int) := by omega
    obtain ⟨c, hc⟩ : ∃ c, l[k]? = some c := ⟨_, List.getElem?_eq_getElem h⟩
    have hL := lb_get hc
    have hge := get_of hL
    have hLl : (lb l).length = l.length := lb_len l
    obtain rfl : e = 9 := he.resolve_left (fun q => by subst q; simp at h)
    have hw := wrapSucc k (by omega)
    have hT : l.take (k + 1) = l.take k ++ [c] := by rw [List.take_add_one, hc]; rfl
    generalize lb l = L at *
    by_cases h1 : c = s
    · repeat (first | with_reducible refine seq_k fun K hK => ?_ | (with_reducible refine region_k fun K hK => ?_; simp [*]) | (with_reducible refine region_draw_k mixedO (by kernel_rfl) fun K hK => ?_; simp [*]) | with_reducible refine pwp_block ?_ | with_reducible refine pwp_skip ?_ | with_reducible refine pwp_ret ?_ | with_reducible refine pwp_exit ?_ | (with_reducible refine cond_t ?_ ?_; (focus (simp [*]; done))) | (with_reducible refine cond_f ?_ ?_; (focus (simp [*]; done))) | with_reducible refine then_n ?_ | with_reducible refine then_r ?_ | with_reducible refine then_e ?_ | with_reducible refine then_g ?_ | with_reducible refine inB_n ?_ | with_reducible refine inB_r ?_ | with_reducible refine inB_e ?_ | with_reducible refine inB_o rfl ?_ | with_reducible refine inB_g ?_ | with_reducible refine Leads.go (by assumption) ?_)
      simp [*]
      subst h1
      exact List.mem_of_getElem? hc
    · have h2 : ¬ s = c := fun q => h1 q.symm
      repeat (first | with_reducible refine seq_k fun K hK => ?_ | (with_reducible refine region_k fun K hK => ?_; simp [*]) | (with_reducible refine region_draw_k mixedO (by kernel_rfl) fun K hK => ?_; simp [*]) | with_reducible refine pwp_block ?_ | with_reducible refine pwp_skip ?_ | with_reducible refine pwp_ret ?_ | with_reducible refine pwp_exit ?_ | (with_reducible refine cond_t ?_ ?_; (focus (simp [*]; done))) | (with_reducible refine cond_f ?_ ?_; (focus (simp [*]; done))) | with_reducible refine then_n ?_ | with_reducible refine then_r ?_ | with_reducible refine then_e ?_ | with_reducible refine then_g ?_ | with_reducible refine inB_n ?_ | with_reducible refine inB_r ?_ | with_reducible refine inB_e ?_ | with_reducible refine inB_o rfl ?_ | with_reducible refine inB_g ?_ | with_reducible refine Leads.go (by assumption) ?_)
      simp [*]
  · rintro ⟨E, H2, df⟩ ⟨en, edf, eH, ⟨e0, e1, e5, -⟩, eP⟩
    simp only at en edf eH e0 e1 e5
    subst edf; subst eH
    rw [List.take_length] at eP
    repeat (first | with_reducible refine seq_k fun K hK => ?_ | (with_reducible refine region_k fun K hK => ?_; simp [*]) | (with_reducible refine region_draw_k mixedO (by kernel_rfl) fun K hK => ?_; simp [*]) | with_reducible refine pwp_block ?_ | with_reducible refine pwp_skip ?_ | with_reducible refine pwp_ret ?_ | with_reducible refine pwp_exit ?_ | (with_reducible refine cond_t ?_ ?_; (focus (simp [*]; done))) | (with_reducible refine cond_f ?_ ?_; (focus (simp [*]; done))) | with_reducible refine then_n ?_ | with_reducible refine then_r ?_ | with_reducible refine then_e ?_ | with_reducible refine then_g ?_ | with_reducible refine inB_n ?_ | with_reducible refine inB_r ?_ | with_reducible refine inB_e ?_ | with_reducible refine inB_o rfl ?_ | with_reducible refine inB_g ?_ | with_reducible refine Leads.go (by assumption) ?_)
    simp [*]
set_option maxHeartbeats 4000000 in
set_option maxRecDepth 100000 in
theorem same_spec (g : Nat) (e : TypeId) (l : List (List UInt8)) (g2 : Nat) (e2 : TypeId) (l2 : List (List UInt8)) (he : l = [] ∨ e = 9) (he2 : l2 = [] ∨ e2 = 9) (hl : l.length ≤ 100000) (hl2 : l2.length ≤ 100000) (H : Heap) : PCalls Try.prog 20 [.slice g e (lb l), .slice g2 e2 (lb l2)] H fun d H' => d = .val (.bool (decide (l = l2))) ∧ H' = H := by
  refine PCalls.of_pwp Try.call20 Try.func20 rfl (by simp [Try.ntmps20]) ?_
  rw [Try.ntmps20]
  by_cases hn : (l.length : Int) = (l2.length : Int)
  · have hn' : l.length = l2.length := by omega
    repeat (first | with_reducible refine seq_k fun K hK => ?_ | (with_reducible refine region_k fun K hK => ?_; simp [*]) | (with_reducible refine region_draw_k mixedO (by kernel_rfl) fun K hK => ?_; simp [*]) | with_reducible refine pwp_block ?_ | with_reducible refine pwp_skip ?_ | with_reducible refine pwp_ret ?_ | with_reducible refine pwp_exit ?_ | (with_reducible refine cond_t ?_ ?_; (focus (simp [*]; done))) | (with_reducible refine cond_f ?_ ?_; (focus (simp [*]; done))) | with_reducible refine then_n ?_ | with_reducible refine then_r ?_ | with_reducible refine then_e ?_ | with_reducible refine then_g ?_ | with_reducible refine inB_n ?_ | with_reducible refine inB_r ?_ | with_reducible refine inB_e ?_ | with_reducible refine inB_o rfl ?_ | with_reducible refine inB_g ?_ | with_reducible refine Leads.go (by assumption) ?_)
    refine pwp_for l.length (fun k st => st.env.n = 26 ∧ st.df = [] ∧ st.H = H ∧ slots st.env [(0, .slice g e (lb l)), (1, .slice g2 e2 (lb l2)), (5, .val (.int .i64 k))] ∧ l.take k = l2.take k) ?_ ?_ ?_
    · simp
    · rintro k ⟨E, H2, df⟩ h ⟨en, edf, eH, ⟨e0, e1, e5, -⟩, eP⟩
      simp only at en edf eH e0 e1 e5
      subst edf; subst eH
      have hki : (k : Int) < (l.length : Int) := by omega
      have hki2 : (k : Int) < (l2.length : Int) := by omega
      obtain ⟨c, hc⟩ : ∃ c, l[k]? = some c := ⟨_, List.getElem?_eq_getElem h⟩
      obtain ⟨c2, hc2⟩ : ∃ c, l2[k]? = some c := ⟨_, List.getElem?_eq_getElem (by omega)⟩
      have hL := lb_get hc
      have hge := get_of hL
      have hL2 := lb_get hc2
      have hge2 := get_of hL2
      have hLl : (lb l).length = l.length := lb_len l
      have hLl2 : (lb l2).length = l2.length := lb_len l2
      obtain rfl : e = 9 := he.resolve_left (fun q => by subst q; simp at h)
      obtain rfl : e2 = 9 := he2.resolve_left (fun q => by subst q; simp at hn'; subst hn'; simp at h)
      have hw := wrapSucc k (by omega)
      have hT : l.take (k + 1) = l.take k ++ [c] := by rw [List.take_add_one, hc]; rfl
      have hT2 : l2.take (k + 1) = l2.take k ++ [c2] := by rw [List.take_add_one, hc2]; rfl
      have hne : c ≠ c2 → l ≠ l2 := fun q1 q2 => by subst q2; rw [hc] at hc2; cases hc2; exact q1 rfl
      generalize lb l = L at *
      generalize lb l2 = L2 at *
      by_cases h1 : c = c2
      · clear hne
        repeat (first | with_reducible refine seq_k fun K hK => ?_ | (with_reducible refine region_k fun K hK => ?_; simp [*]) | (with_reducible refine region_draw_k mixedO (by kernel_rfl) fun K hK => ?_; simp [*]) | with_reducible refine pwp_block ?_ | with_reducible refine pwp_skip ?_ | with_reducible refine pwp_ret ?_ | with_reducible refine pwp_exit ?_ | (with_reducible refine cond_t ?_ ?_; (focus (simp [*]; done))) | (with_reducible refine cond_f ?_ ?_; (focus (simp [*]; done))) | with_reducible refine then_n ?_ | with_reducible refine then_r ?_ | with_reducible refine then_e ?_ | with_reducible refine then_g ?_ | with_reducible refine inB_n ?_ | with_reducible refine inB_r ?_ | with_reducible refine inB_e ?_ | with_reducible refine inB_o rfl ?_ | with_reducible refine inB_g ?_ | with_reducible refine Leads.go (by assumption) ?_)
        simp [*]
      · have hne := hne h1
        repeat (first | with_reducible refine seq_k fun K hK => ?_ | (with_reducible refine region_k fun K hK => ?_; simp [*]) | (with_reducible refine region_draw_k mixedO (by kernel_rfl) fun K hK => ?_; simp [*]) | with_reducible refine pwp_block ?_ | with_reducible refine pwp_skip ?_ | with_reducible refine pwp_ret ?_ | with_reducible refine pwp_exit ?_ | (with_reducible refine cond_t ?_ ?_; (focus (simp [*]; done))) | (with_reducible refine cond_f ?_ ?_; (focus (simp [*]; done))) | with_reducible refine then_n ?_ | with_reducible refine then_r ?_ | with_reducible refine then_e ?_ | with_reducible refine then_g ?_ | with_reducible refine inB_n ?_ | with_reducible refine inB_r ?_ | with_reducible refine inB_e ?_ | with_reducible refine inB_o rfl ?_ | with_reducible refine inB_g ?_ | with_reducible refine Leads.go (by assumption) ?_)
        simp [*]
    · rintro ⟨E, H2, df⟩ ⟨en, edf, eH, ⟨e0, e1, e5, -⟩, eP⟩
      simp only at en edf eH e0 e1 e5
      subst edf; subst eH
      rw [List.take_length, hn', List.take_length] at eP
      subst eP
      repeat (first | with_reducible refine seq_k fun K hK => ?_ | (with_reducible refine region_k fun K hK => ?_; simp [*]) | (with_reducible refine region_draw_k mixedO (by kernel_rfl) fun K hK => ?_; simp [*]) | with_reducible refine pwp_block ?_ | with_reducible refine pwp_skip ?_ | with_reducible refine pwp_ret ?_ | with_reducible refine pwp_exit ?_ | (with_reducible refine cond_t ?_ ?_; (focus (simp [*]; done))) | (with_reducible refine cond_f ?_ ?_; (focus (simp [*]; done))) | with_reducible refine then_n ?_ | with_reducible refine then_r ?_ | with_reducible refine then_e ?_ | with_reducible refine then_g ?_ | with_reducible refine inB_n ?_ | with_reducible refine inB_r ?_ | with_reducible refine inB_e ?_ | with_reducible refine inB_o rfl ?_ | with_reducible refine inB_g ?_ | with_reducible refine Leads.go (by assumption) ?_)
      simp [*]
  · have hne : l ≠ l2 := fun q => by subst q; exact hn rfl
    repeat (first | with_reducible refine seq_k fun K hK => ?_ | (with_reducible refine region_k fun K hK => ?_; simp [*]) | (with_reducible refine region_draw_k mixedO (by kernel_rfl) fun K hK => ?_; simp [*]) | with_reducible refine pwp_block ?_ | with_reducible refine pwp_skip ?_ | with_reducible refine pwp_ret ?_ | with_reducible refine pwp_exit ?_ | (with_reducible refine cond_t ?_ ?_; (focus (simp [*]; done))) | (with_reducible refine cond_f ?_ ?_; (focus (simp [*]; done))) | with_reducible refine then_n ?_ | with_reducible refine then_r ?_ | with_reducible refine then_e ?_ | with_reducible refine then_g ?_ | with_reducible refine inB_n ?_ | with_reducible refine inB_r ?_ | with_reducible refine inB_e ?_ | with_reducible refine inB_o rfl ?_ | with_reducible refine inB_g ?_ | with_reducible refine Leads.go (by assumption) ?_)
    simp [*]
def fs (l : List ByteArray) : Nat := l.foldr (fun s n => n + (10 + min s.data.toList.length 600)) 0
theorem fs_app (l m : List ByteArray) : fs (l ++ m) = fs l + fs m := by
  induction l with
  | nil => simp [fs]
  | cons a l ih => simp only [fs, List.cons_append, List.foldr_cons] at ih ⊢; omega
theorem fs_len (l : List ByteArray) : 10 * l.length ≤ fs l := by
  induction l with
  | nil => simp [fs]
  | cons a l ih => simp only [fs, List.foldr_cons, List.length_cons] at ih ⊢; omega
theorem fs_mem {l : List ByteArray} {s : ByteArray} (h : s ∈ l) : min s.data.toList.length 600 + 10 ≤ fs l := by
  induction l with
  | nil => cases h
  | cons a l ih =>
    simp only [fs, List.foldr_cons] at ih ⊢
    rcases List.mem_cons.1 h with rfl | h
    · omega
    · have := ih h; omega
theorem fs_size {l : List ByteArray} (h : fs l ≤ 600) : l.length ≤ 60 ∧ ∀ s ∈ l, s.size ≤ 600 := by
  refine ⟨by have := fs_len l; omega, fun s hs => ?_⟩
  have := fs_mem hs
  have h2 : s.size = s.data.toList.length := by rw [ByteArray.size, Array.length_toList]
  omega
set_option maxHeartbeats 4000000 in
set_option maxRecDepth 100000 in
theorem few_spec (g : Nat) (e : TypeId) (l : List ByteArray) (he : l = [] ∨ e = 9) (H : Heap) : PCalls Try.prog 17 [.slice g e (l.map strD)] H fun d H' => d = .val (.bool (decide (fs l ≤ 600))) ∧ H' = H := by
  refine PCalls.of_pwp Try.call17 Try.func17 rfl (by simp [Try.ntmps17]) ?_
  rw [Try.ntmps17]
  repeat (first | with_reducible refine seq_k fun K hK => ?_ | (with_reducible refine region_k fun K hK => ?_; simp [*]) | (with_reducible refine region_draw_k mixedO (by kernel_rfl) fun K hK => ?_; simp [*]) | with_reducible refine pwp_block ?_ | with_reducible refine pwp_skip ?_ | with_reducible refine pwp_ret ?_ | with_reducible refine pwp_exit ?_ | (with_reducible refine cond_t ?_ ?_; (focus (simp [*]; done))) | (with_reducible refine cond_f ?_ ?_; (focus (simp [*]; done))) | with_reducible refine then_n ?_ | with_reducible refine then_r ?_ | with_reducible refine then_e ?_ | with_reducible refine then_g ?_ | with_reducible refine inB_n ?_ | with_reducible refine inB_r ?_ | with_reducible refine inB_e ?_ | with_reducible refine inB_o rfl ?_ | with_reducible refine inB_g ?_ | with_reducible refine Leads.go (by assumption) ?_)
  refine pwp_for l.length (fun k st => st.env.n = 22 ∧ st.df = [] ∧ st.H = H ∧ slots st.env [(0, .slice g e (l.map strD)), (3, .val (.int .i64 (fs (l.take k) : Nat))), (4, .val (.int .i64 k))] ∧ fs (l.take k) ≤ 600) ?_ ?_ ?_
  · simp [fs]
  · rintro k ⟨E, H2, df⟩ h ⟨en, edf, eH, ⟨e0, e3, e4, -⟩, eP⟩
    simp only at en edf eH e0 e3 e4
    subst edf; subst eH
    have hki : (k : Int) < (l.length : Int) := by omega
    obtain ⟨s, hc⟩ : ∃ c, l[k]? = some c := ⟨_, List.getElem?_eq_getElem h⟩
    have hL : (l.map strD)[k]? = some (.val (.string s)) := by rw [List.getElem?_map, hc]; rfl
    have hge := get_of hL
    have hLl : (l.map strD).length = l.length := by simp
    obtain rfl : e = 9 := he.resolve_left (fun q => by subst q; simp at h)
    have hlen := fs_len (l.take k)
    rw [List.length_take, Nat.min_eq_left (by omega)] at hlen
    have hw := wrapSucc k (by omega)
    have hT : fs (l.take (k + 1)) = fs (l.take k) + (10 + min s.data.toList.length 600) := by rw [List.take_add_one, hc, fs_app]; simp [fs]
    have hle : fs (l.take (k + 1)) ≤ fs l := by
      have := fs_app (l.take (k + 1)) (l.drop (k + 1))
      rw [List.take_append_drop] at this
      omega
    generalize l.map strD = L at *
    generalize fs (l.take k) = a at *
    generalize fs (l.take (k + 1)) = b at *
    obtain ⟨q, hq⟩ : ∃ q, q = s.data.toList.length := ⟨_, rfl⟩
    have hq2 : s.data.size = q := by rw [hq, Array.length_toList]
    rw [← hq] at hT
    have hw1 : IntKind.i64.wrap ((a : Int) + 10) = ((a + 10 : Nat) : Int) := by simp [IntKind.wrap, IntKind.bits, IntKind.signed]; omega
    clear hc hlen hq
    have hgo : ∀ m : Nat, m = min q 600 → (if (600 : Int) < (q : Int) then (600 : Int) else (q : Int)) = (m : Int) := fun m hm => by split <;> omega
    obtain ⟨m, hm⟩ : ∃ m, m = min q 600 := ⟨_, rfl⟩
    replace hgo := hgo m hm
    rw [← hm] at hT
    have hm6 : m ≤ 600 := by omega
    have hw2 : IntKind.i64.wrap ((a : Int) + 10 + (m : Int)) = ((b : Nat) : Int) := by simp [IntKind.wrap, IntKind.bits, IntKind.signed]; omega
    clear hm hT
    by_cases h6 : b ≤ 600
    · have h7 : ¬ (600 < (b : Int)) := by omega
      repeat (first | with_reducible refine seq_k fun K hK => ?_ | (with_reducible refine region_k fun K hK => ?_; simp [*]) | (with_reducible refine region_draw_k mixedO (by kernel_rfl) fun K hK => ?_; simp [*]) | with_reducible refine pwp_block ?_ | with_reducible refine pwp_skip ?_ | with_reducible refine pwp_ret ?_ | with_reducible refine pwp_exit ?_ | (with_reducible refine cond_t ?_ ?_; (focus (simp [*]; done))) | (with_reducible refine cond_f ?_ ?_; (focus (simp [*]; done))) | with_reducible refine then_n ?_ | with_reducible refine then_r ?_ | with_reducible refine then_e ?_ | with_reducible refine then_g ?_ | with_reducible refine inB_n ?_ | with_reducible refine inB_r ?_ | with_reducible refine inB_e ?_ | with_reducible refine inB_o rfl ?_ | with_reducible refine inB_g ?_ | with_reducible refine Leads.go (by assumption) ?_)
      simp [*]
    · have h7 : 600 < (b : Int) := by omega
      have h8 : ¬ fs l ≤ 600 := by omega
      repeat (first | with_reducible refine seq_k fun K hK => ?_ | (with_reducible refine region_k fun K hK => ?_; simp [*]) | (with_reducible refine region_draw_k mixedO (by kernel_rfl) fun K hK => ?_; simp [*]) | with_reducible refine pwp_block ?_ | with_reducible refine pwp_skip ?_ | with_reducible refine pwp_ret ?_ | with_reducible refine pwp_exit ?_ | (with_reducible refine cond_t ?_ ?_; (focus (simp [*]; done))) | (with_reducible refine cond_f ?_ ?_; (focus (simp [*]; done))) | with_reducible refine then_n ?_ | with_reducible refine then_r ?_ | with_reducible refine then_e ?_ | with_reducible refine then_g ?_ | with_reducible refine inB_n ?_ | with_reducible refine inB_r ?_ | with_reducible refine inB_e ?_ | with_reducible refine inB_o rfl ?_ | with_reducible refine inB_g ?_ | with_reducible refine Leads.go (by assumption) ?_)
      simp [*]
  · rintro ⟨E, H2, df⟩ ⟨en, edf, eH, ⟨e0, e3, e4, -⟩, eP⟩
    simp only at en edf eH e0 e3 e4
    subst edf; subst eH
    rw [List.take_length] at eP
    repeat (first | with_reducible refine seq_k fun K hK => ?_ | (with_reducible refine region_k fun K hK => ?_; simp [*]) | (with_reducible refine region_draw_k mixedO (by kernel_rfl) fun K hK => ?_; simp [*]) | with_reducible refine pwp_block ?_ | with_reducible refine pwp_skip ?_ | with_reducible refine pwp_ret ?_ | with_reducible refine pwp_exit ?_ | (with_reducible refine cond_t ?_ ?_; (focus (simp [*]; done))) | (with_reducible refine cond_f ?_ ?_; (focus (simp [*]; done))) | with_reducible refine then_n ?_ | with_reducible refine then_r ?_ | with_reducible refine then_e ?_ | with_reducible refine then_g ?_ | with_reducible refine inB_n ?_ | with_reducible refine inB_r ?_ | with_reducible refine inB_e ?_ | with_reducible refine inB_o rfl ?_ | with_reducible refine inB_g ?_ | with_reducible refine Leads.go (by assumption) ?_)
    simp [*]
end Go.Pv
