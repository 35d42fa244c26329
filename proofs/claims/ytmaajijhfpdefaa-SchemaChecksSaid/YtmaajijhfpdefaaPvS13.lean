/- A part of the proof: functions of the program, walked, or what operations come to. -/
import Derived.Test.YtmaajijhfpdefaaPvS12
namespace Go.Pv
open Go.Proofs
attribute [local simp] Try.underlying29 Try.underlying31 Try.underlying41 Try.underlying76 Heap.new_get Heap.put_get strD appK eBuildSlice
/-- Is class a class b, or above it? -/
def abv (a b : Nat) : Bool := (ch b).contains a
def apartB (c d : Nat) : Bool := !abv c d && !abv d c
/-- A heap that has grown. -/
def Grew (H H' : Heap) : Prop := H.nx ≤ H'.nx ∧ ∀ x, x < H.nx → H'.get x = H.get x
theorem Grew.refl (H : Heap) : Grew H H := ⟨Nat.le_refl _, fun _ _ => rfl⟩
theorem Grew.trans {a b c : Heap} (h : Grew a b) (k : Grew b c) : Grew a c := ⟨Nat.le_trans h.1 k.1, fun x hx => (k.2 x (Nat.lt_of_lt_of_le hx h.1)).trans (h.2 x hx)⟩
theorem Grew.new (H : Heap) (o : PObj) : Grew H (H.new o) := ⟨by simp, fun x hx => Heap.new_ne _ _ (by omega)⟩
@[simp] theorem res41 : Try.f41.results.toList = [.tmp 3] := rfl
@[simp] theorem res47 : Try.f47.results.toList = [.tmp 4] := rfl
@[simp] theorem res43 : Try.f43.results.toList = [.tmp 4] := rfl
@[simp] theorem res35 : Try.f35.results.toList = [.tmp 2] := rfl
set_option maxHeartbeats 4000000 in
set_option maxRecDepth 100000 in
theorem indexC_spec (g : Nat) (l : List Nat) (f j : Nat) (p : Nat → Bool) (H : Heap) (hcl : ∀ d ∈ l, ∀ H2, Grew H H2 → PCalls Try.prog f [clD d, .ptr j 0] H2 fun r H3 => r = .val (.bool (p d)) ∧ Grew H2 H3) (hl : l.length ≤ 100000) :
    PCalls Try.prog 47 [.slice g 31 (l.map clD), .clo (.func f) [] [.ptr j 0]] H fun d H' => (∃ r : Int, d = .val (.int .i64 r) ∧ (0 ≤ r ↔ l.any p = true)) ∧ Grew H H' := by
  refine PCalls.of_pwp Try.call47 Try.func47 rfl (by simp [Try.ntmps47]) ?_
  rw [Try.ntmps47]
  repeat (first | with_reducible refine seq_k fun K hK => ?_ | (with_reducible refine region_k fun K hK => ?_; simp [*]) | (with_reducible refine region_draw_k mixedO (by kernel_rfl) fun K hK => ?_; simp [*]) | with_reducible refine pwp_block ?_ | with_reducible refine pwp_skip ?_ | with_reducible refine pwp_ret ?_ | with_reducible refine pwp_exit ?_ | (with_reducible refine cond_t ?_ ?_; (focus (simp [*]; done))) | (with_reducible refine cond_f ?_ ?_; (focus (simp [*]; done))) | with_reducible refine then_n ?_ | with_reducible refine then_r ?_ | with_reducible refine then_e ?_ | with_reducible refine then_g ?_ | with_reducible refine inB_n ?_ | with_reducible refine inB_r ?_ | with_reducible refine inB_e ?_ | with_reducible refine inB_o rfl ?_ | with_reducible refine inB_g ?_ | with_reducible refine Leads.go (by assumption) ?_)
  refine pwp_for l.length (fun k st => st.env.n = 19 ∧ st.df = [] ∧ slots st.env [(0, .slice g 31 (l.map clD)), (1, .clo (.func f) [] [.ptr j 0]), (7, .val (.int .i64 l.length)), (8, .val (.int .i64 k))] ∧ Grew H st.H ∧ (l.take k).any p = false) ?_ ?_ ?_
  · exact ⟨by simp, rfl, by simp, Grew.refl H, by simp⟩
  · rintro k ⟨E, H2, df⟩ h ⟨en, edf, ⟨e0, e1, e7, e8, -⟩, eG, eP⟩
    simp only at en edf e0 e1 e7 e8 eG
    subst edf
    have hki : (k : Int) < (l.length : Int) := by omega
    obtain ⟨d, hd⟩ : ∃ c, l[k]? = some c := ⟨_, List.getElem?_eq_getElem h⟩
    have hL : (l.map clD)[k]? = some (clD d) := by rw [List.getElem?_map, hd]; rfl
    have hge := get_of hL
    have hLl : (l.map clD).length = l.length := by simp
    have hw := wrapSucc k (by omega)
    have hT : (l.take (k + 1)).any p = p d := by rw [List.take_add_one, hd, List.any_append, eP]; simp
    have hcl := hcl d (List.mem_of_getElem? hd) H2 eG
    have kG := Hold.mk eG
    have kT := Hold.mk hT
    have kd := Hold.mk (List.mem_of_getElem? hd)
    clear eG hd hT
    generalize l.map clD = L at *
    repeat (first | with_reducible refine seq_k fun K hK => ?_ | (with_reducible refine region_k fun K hK => ?_; simp [*]) | (with_reducible refine region_draw_k mixedO (by kernel_rfl) fun K hK => ?_; simp [*]) | with_reducible refine pwp_block ?_ | with_reducible refine pwp_skip ?_ | with_reducible refine pwp_ret ?_ | with_reducible refine pwp_exit ?_ | (with_reducible refine cond_t ?_ ?_; (focus (simp [*]; done))) | (with_reducible refine cond_f ?_ ?_; (focus (simp [*]; done))) | with_reducible refine then_n ?_ | with_reducible refine then_r ?_ | with_reducible refine then_e ?_ | with_reducible refine then_g ?_ | with_reducible refine inB_n ?_ | with_reducible refine inB_r ?_ | with_reducible refine inB_e ?_ | with_reducible refine inB_o rfl ?_ | with_reducible refine inB_g ?_ | with_reducible refine Leads.go (by assumption) ?_)
    refine PCalls.mono hcl ?_
    rintro _ H3 ⟨rfl, hg3⟩
    have kG3 := Hold.mk (kG.out.trans hg3)
    clear hcl hg3
    try simp [*]
    by_cases h1 : p d = true
    · repeat (first | with_reducible refine seq_k fun K hK => ?_ | (with_reducible refine region_k fun K hK => ?_; simp [*]) | (with_reducible refine region_draw_k mixedO (by kernel_rfl) fun K hK => ?_; simp [*]) | with_reducible refine pwp_block ?_ | with_reducible refine pwp_skip ?_ | with_reducible refine pwp_ret ?_ | with_reducible refine pwp_exit ?_ | (with_reducible refine cond_t ?_ ?_; (focus (simp [*]; done))) | (with_reducible refine cond_f ?_ ?_; (focus (simp [*]; done))) | with_reducible refine then_n ?_ | with_reducible refine then_r ?_ | with_reducible refine then_e ?_ | with_reducible refine then_g ?_ | with_reducible refine inB_n ?_ | with_reducible refine inB_r ?_ | with_reducible refine inB_e ?_ | with_reducible refine inB_o rfl ?_ | with_reducible refine inB_g ?_ | with_reducible refine Leads.go (by assumption) ?_)
      simp [*]
      exact ⟨⟨d, kd.out, h1⟩, kG3.out⟩
    · have h1' : p d = false := by simpa using h1
      repeat (first | with_reducible refine seq_k fun K hK => ?_ | (with_reducible refine region_k fun K hK => ?_; simp [*]) | (with_reducible refine region_draw_k mixedO (by kernel_rfl) fun K hK => ?_; simp [*]) | with_reducible refine pwp_block ?_ | with_reducible refine pwp_skip ?_ | with_reducible refine pwp_ret ?_ | with_reducible refine pwp_exit ?_ | (with_reducible refine cond_t ?_ ?_; (focus (simp [*]; done))) | (with_reducible refine cond_f ?_ ?_; (focus (simp [*]; done))) | with_reducible refine then_n ?_ | with_reducible refine then_r ?_ | with_reducible refine then_e ?_ | with_reducible refine then_g ?_ | with_reducible refine inB_n ?_ | with_reducible refine inB_r ?_ | with_reducible refine inB_e ?_ | with_reducible refine inB_o rfl ?_ | with_reducible refine inB_g ?_ | with_reducible refine Leads.go (by assumption) ?_)
      refine ⟨by simp [*], rfl, by simp [*], kG3.out, by rw [kT.out, h1']⟩
  · rintro ⟨E, H2, df⟩ ⟨en, edf, ⟨e0, e1, e7, e8, -⟩, eG, eP⟩
    simp only at en edf e0 e1 e7 e8 eG
    subst edf
    rw [List.take_length] at eP
    have kG := Hold.mk eG
    have kP := Hold.mk eP
    clear eG eP
    repeat (first | with_reducible refine seq_k fun K hK => ?_ | (with_reducible refine region_k fun K hK => ?_; simp [*]) | (with_reducible refine region_draw_k mixedO (by kernel_rfl) fun K hK => ?_; simp [*]) | with_reducible refine pwp_block ?_ | with_reducible refine pwp_skip ?_ | with_reducible refine pwp_ret ?_ | with_reducible refine pwp_exit ?_ | (with_reducible refine cond_t ?_ ?_; (focus (simp [*]; done))) | (with_reducible refine cond_f ?_ ?_; (focus (simp [*]; done))) | with_reducible refine then_n ?_ | with_reducible refine then_r ?_ | with_reducible refine then_e ?_ | with_reducible refine then_g ?_ | with_reducible refine inB_n ?_ | with_reducible refine inB_r ?_ | with_reducible refine inB_e ?_ | with_reducible refine inB_o rfl ?_ | with_reducible refine inB_g ?_ | with_reducible refine Leads.go (by assumption) ?_)
    simp only [retPost, runDefers, resultsE, res47, result1, tupD]
    refine ⟨⟨-1, by simp [*], by rw [kP.out]; simp⟩, kG.out⟩
set_option maxHeartbeats 4000000 in
set_option maxRecDepth 100000 in
theorem containsC_spec (g : Nat) (l : List Nat) (f j : Nat) (p : Nat → Bool) (H : Heap) (hcl : ∀ d ∈ l, ∀ H2, Grew H H2 → PCalls Try.prog f [clD d, .ptr j 0] H2 fun r H3 => r = .val (.bool (p d)) ∧ Grew H2 H3) (hl : l.length ≤ 100000) :
    PCalls Try.prog 43 [.slice g 31 (l.map clD), .clo (.func f) [] [.ptr j 0]] H fun d H' => d = .val (.bool (l.any p)) ∧ Grew H H' := by
  refine PCalls.of_pwp Try.call43 Try.func43 rfl (by simp [Try.ntmps43]) ?_
  rw [Try.ntmps43]
  have hi := indexC_spec g l f j p H hcl hl
  clear hcl
  repeat (first | with_reducible refine seq_k fun K hK => ?_ | (with_reducible refine region_k fun K hK => ?_; simp [*]) | (with_reducible refine region_draw_k mixedO (by kernel_rfl) fun K hK => ?_; simp [*]) | with_reducible refine pwp_block ?_ | with_reducible refine pwp_skip ?_ | with_reducible refine pwp_ret ?_ | with_reducible refine pwp_exit ?_ | (with_reducible refine cond_t ?_ ?_; (focus (simp [*]; done))) | (with_reducible refine cond_f ?_ ?_; (focus (simp [*]; done))) | with_reducible refine then_n ?_ | with_reducible refine then_r ?_ | with_reducible refine then_e ?_ | with_reducible refine then_g ?_ | with_reducible refine inB_n ?_ | with_reducible refine inB_r ?_ | with_reducible refine inB_e ?_ | with_reducible refine inB_o rfl ?_ | with_reducible refine inB_g ?_ | with_reducible refine Leads.go (by assumption) ?_)
  refine PCalls.mono hi ?_
  rintro _ H2 ⟨⟨r, rfl, hr⟩, hg⟩
  have kg := Hold.mk hg
  clear hi hg
  generalize l.any p = bb at *
  try simp [*]
  by_cases hm : bb = true
  · have hr0 : 0 ≤ r := hr.2 hm
    clear hr
    repeat (first | with_reducible refine seq_k fun K hK => ?_ | (with_reducible refine region_k fun K hK => ?_; simp [*]) | (with_reducible refine region_draw_k mixedO (by kernel_rfl) fun K hK => ?_; simp [*]) | with_reducible refine pwp_block ?_ | with_reducible refine pwp_skip ?_ | with_reducible refine pwp_ret ?_ | with_reducible refine pwp_exit ?_ | (with_reducible refine cond_t ?_ ?_; (focus (simp [*]; done))) | (with_reducible refine cond_f ?_ ?_; (focus (simp [*]; done))) | with_reducible refine then_n ?_ | with_reducible refine then_r ?_ | with_reducible refine then_e ?_ | with_reducible refine then_g ?_ | with_reducible refine inB_n ?_ | with_reducible refine inB_r ?_ | with_reducible refine inB_e ?_ | with_reducible refine inB_o rfl ?_ | with_reducible refine inB_g ?_ | with_reducible refine Leads.go (by assumption) ?_)
    simp only [retPost, runDefers, resultsE, res43, result1, tupD]
    exact ⟨by simp [*], kg.out⟩
  · have hr0 : ¬ 0 ≤ r := fun q => hm (hr.1 q)
    have hm' : bb = false := by simpa using hm
    clear hr hm
    repeat (first | with_reducible refine seq_k fun K hK => ?_ | (with_reducible refine region_k fun K hK => ?_; simp [*]) | (with_reducible refine region_draw_k mixedO (by kernel_rfl) fun K hK => ?_; simp [*]) | with_reducible refine pwp_block ?_ | with_reducible refine pwp_skip ?_ | with_reducible refine pwp_ret ?_ | with_reducible refine pwp_exit ?_ | (with_reducible refine cond_t ?_ ?_; (focus (simp [*]; done))) | (with_reducible refine cond_f ?_ ?_; (focus (simp [*]; done))) | with_reducible refine then_n ?_ | with_reducible refine then_r ?_ | with_reducible refine then_e ?_ | with_reducible refine then_g ?_ | with_reducible refine inB_n ?_ | with_reducible refine inB_r ?_ | with_reducible refine inB_e ?_ | with_reducible refine inB_o rfl ?_ | with_reducible refine inB_g ?_ | with_reducible refine Leads.go (by assumption) ?_)
    simp only [retPost, runDefers, resultsE, res43, result1, tupD]
    exact ⟨by simp [*], kg.out⟩
@[simp] theorem res46 : Try.f46.results.toList = [.tmp 3] := rfl
@[simp] theorem res42 : Try.f42.results.toList = [.tmp 4] := rfl
set_option maxHeartbeats 4000000 in
set_option maxRecDepth 100000 in
theorem above1_spec {a d : Nat} (j : Nat) (H : Heap) (hj : H.get j = some (.cells (cellsD (clD a)))) (hlt : j < H.nx) : PCalls Try.prog 46 [clD d, .ptr j 0] H fun r H' => r = .val (.bool (decide ((nm d).data = (nm a).data))) ∧ Grew H H' := by
  refine PCalls.of_pwp Try.call46 Try.func46 rfl (by simp [Try.ntmps46]) ?_
  rw [Try.ntmps46]
  have hne : j ≠ H.nx := by omega
  have hg := Grew.new H (.cells (cellsD (clD d)))
  have kg := Hold.mk hg
  clear hg
  rw [cells_cl] at hj
  repeat (first | with_reducible refine seq_k fun K hK => ?_ | (with_reducible refine region_k fun K hK => ?_; simp [*]) | (with_reducible refine region_draw_k mixedO (by kernel_rfl) fun K hK => ?_; simp [*]) | with_reducible refine pwp_block ?_ | with_reducible refine pwp_skip ?_ | with_reducible refine pwp_ret ?_ | with_reducible refine pwp_exit ?_ | (with_reducible refine cond_t ?_ ?_; (focus (simp [*]; done))) | (with_reducible refine cond_f ?_ ?_; (focus (simp [*]; done))) | with_reducible refine then_n ?_ | with_reducible refine then_r ?_ | with_reducible refine then_e ?_ | with_reducible refine then_g ?_ | with_reducible refine inB_n ?_ | with_reducible refine inB_r ?_ | with_reducible refine inB_e ?_ | with_reducible refine inB_o rfl ?_ | with_reducible refine inB_g ?_ | with_reducible refine Leads.go (by assumption) ?_)
  simp [*]
  exact kg.out
theorem nm_eq : ∀ a, a < 10 → ∀ b, b < 10 → decide ((nm a).data = (nm b).data) = decide (a = b) := by decide +kernel
theorem ch_lt : ∀ b, b < 10 → ∀ x ∈ ch b, x < 10 := by decide +kernel
set_option maxHeartbeats 4000000 in
set_option maxRecDepth 100000 in
theorem above_local {a b : Nat} (ha : a < 10) (hb : b < 10) : PCalls Try.prog 42 [clD a, clD b] (noHeap noG) fun d H' => d = .val (.bool (abv a b)) := by
  refine PCalls.of_pwp Try.call42 Try.func42 rfl (by simp [Try.ntmps42]) ?_
  rw [Try.ntmps42]
  have hch := chain_spec b hb
  repeat (first | with_reducible refine seq_k fun K hK => ?_ | (with_reducible refine region_k fun K hK => ?_; simp [*]) | (with_reducible refine region_draw_k mixedO (by kernel_rfl) fun K hK => ?_; simp [*]) | with_reducible refine pwp_block ?_ | with_reducible refine pwp_skip ?_ | with_reducible refine pwp_ret ?_ | with_reducible refine pwp_exit ?_ | (with_reducible refine cond_t ?_ ?_; (focus (simp [*]; done))) | (with_reducible refine cond_f ?_ ?_; (focus (simp [*]; done))) | with_reducible refine then_n ?_ | with_reducible refine then_r ?_ | with_reducible refine then_e ?_ | with_reducible refine then_g ?_ | with_reducible refine inB_n ?_ | with_reducible refine inB_r ?_ | with_reducible refine inB_e ?_ | with_reducible refine inB_o rfl ?_ | with_reducible refine inB_g ?_ | with_reducible refine Leads.go (by assumption) ?_)
  refine PCalls.mono (hch _) ?_
  rintro _ _ ⟨rfl, rfl⟩
  try simp [*]
  repeat (first | with_reducible refine seq_k fun K hK => ?_ | (with_reducible refine region_k fun K hK => ?_; simp [*]) | (with_reducible refine region_draw_k mixedO (by kernel_rfl) fun K hK => ?_; simp [*]) | with_reducible refine pwp_block ?_ | with_reducible refine pwp_skip ?_ | with_reducible refine pwp_ret ?_ | with_reducible refine pwp_exit ?_ | (with_reducible refine cond_t ?_ ?_; (focus (simp [*]; done))) | (with_reducible refine cond_f ?_ ?_; (focus (simp [*]; done))) | with_reducible refine then_n ?_ | with_reducible refine then_r ?_ | with_reducible refine then_e ?_ | with_reducible refine then_g ?_ | with_reducible refine inB_n ?_ | with_reducible refine inB_r ?_ | with_reducible refine inB_e ?_ | with_reducible refine inB_o rfl ?_ | with_reducible refine inB_g ?_ | with_reducible refine Leads.go (by assumption) ?_)
  refine PCalls.mono (containsC_spec 0 (ch b) 46 0 (fun d => decide ((nm d).data = (nm a).data)) _ (fun d hd H2 hg => above1_spec 0 H2 ?_ ?_) (by have := ch_len b; omega)) ?_
  · rw [hg.2 0 (by simp)]; simp; intro q; exact absurd rfl q
  · exact Nat.lt_of_lt_of_le (by simp) hg.1
  rintro _ _ ⟨rfl, _⟩
  have he : (ch b).any (fun d => decide ((nm d).data = (nm a).data)) = abv a b := by
    rw [abv, Bool.eq_iff_iff, List.any_eq_true, List.contains_iff_mem]
    constructor
    · rintro ⟨x, h1, h2⟩
      rw [nm_eq x (ch_lt b hb x h1) a ha] at h2
      have : x = a := by simpa using h2
      exact this ▸ h1
    · exact fun h => ⟨a, h, by simp⟩
  rw [he]
  repeat (first | with_reducible refine seq_k fun K hK => ?_ | (with_reducible refine region_k fun K hK => ?_; simp [*]) | (with_reducible refine region_draw_k mixedO (by kernel_rfl) fun K hK => ?_; simp [*]) | with_reducible refine pwp_block ?_ | with_reducible refine pwp_skip ?_ | with_reducible refine pwp_ret ?_ | with_reducible refine pwp_exit ?_ | (with_reducible refine cond_t ?_ ?_; (focus (simp [*]; done))) | (with_reducible refine cond_f ?_ ?_; (focus (simp [*]; done))) | with_reducible refine then_n ?_ | with_reducible refine then_r ?_ | with_reducible refine then_e ?_ | with_reducible refine then_g ?_ | with_reducible refine inB_n ?_ | with_reducible refine inB_r ?_ | with_reducible refine inB_e ?_ | with_reducible refine inB_o rfl ?_ | with_reducible refine inB_g ?_ | with_reducible refine Leads.go (by assumption) ?_)
  simp [*]
theorem above_spec {a b : Nat} (ha : a < 10) (hb : b < 10) (H : Heap) : PCalls Try.prog 42 [clD a, clD b] H fun d H' => d = .val (.bool (abv a b)) ∧ H' = H :=
  PCalls.liftG (above_local ha hb) (fun d hd => by simp only [List.mem_cons, List.mem_nil_iff, or_false] at hd; rcases hd with rfl | rfl <;> exact pure_cl _) (.val _) H

set_option maxHeartbeats 4000000 in
set_option maxRecDepth 100000 in
theorem one1_spec {c d : Nat} (hc : c < 10) (hd : d < 10) (j : Nat) (H : Heap) (hj : H.get j = some (.cells (cellsD (clD c)))) (hlt : j < H.nx) : PCalls Try.prog 41 [clD d, .ptr j 0] H fun r H' => r = .val (.bool (apartB c d)) ∧ Grew H H' := by
  refine PCalls.of_pwp Try.call41 Try.func41 rfl (by simp [Try.ntmps41]) ?_
  rw [Try.ntmps41]
  have hne : j ≠ H.nx := by omega
  have hg := Grew.new H (.cells (cellsD (clD d)))
  have kg := Hold.mk hg
  clear hg
  rw [cells_cl] at hj
  repeat (first | with_reducible refine seq_k fun K hK => ?_ | (with_reducible refine region_k fun K hK => ?_; simp [*]) | (with_reducible refine region_draw_k mixedO (by kernel_rfl) fun K hK => ?_; simp [*]) | with_reducible refine pwp_block ?_ | with_reducible refine pwp_skip ?_ | with_reducible refine pwp_ret ?_ | with_reducible refine pwp_exit ?_ | (with_reducible refine cond_t ?_ ?_; (focus (simp [*]; done))) | (with_reducible refine cond_f ?_ ?_; (focus (simp [*]; done))) | with_reducible refine then_n ?_ | with_reducible refine then_r ?_ | with_reducible refine then_e ?_ | with_reducible refine then_g ?_ | with_reducible refine inB_n ?_ | with_reducible refine inB_r ?_ | with_reducible refine inB_e ?_ | with_reducible refine inB_o rfl ?_ | with_reducible refine inB_g ?_ | with_reducible refine Leads.go (by assumption) ?_)
  refine PCalls.mono (above_spec hc hd _) ?_
  rintro _ _ ⟨rfl, rfl⟩
  by_cases h1 : abv c d = true
  · have hr : apartB c d = false := by simp [apartB, h1]
    try simp [*]
    repeat (first | with_reducible refine seq_k fun K hK => ?_ | (with_reducible refine region_k fun K hK => ?_; simp [*]) | (with_reducible refine region_draw_k mixedO (by kernel_rfl) fun K hK => ?_; simp [*]) | with_reducible refine pwp_block ?_ | with_reducible refine pwp_skip ?_ | with_reducible refine pwp_ret ?_ | with_reducible refine pwp_exit ?_ | (with_reducible refine cond_t ?_ ?_; (focus (simp [*]; done))) | (with_reducible refine cond_f ?_ ?_; (focus (simp [*]; done))) | with_reducible refine then_n ?_ | with_reducible refine then_r ?_ | with_reducible refine then_e ?_ | with_reducible refine then_g ?_ | with_reducible refine inB_n ?_ | with_reducible refine inB_r ?_ | with_reducible refine inB_e ?_ | with_reducible refine inB_o rfl ?_ | with_reducible refine inB_g ?_ | with_reducible refine Leads.go (by assumption) ?_)
    simp [*]
    exact kg.out
  · have h1' : abv c d = false := by simpa using h1
    try simp [*]
    refine PCalls.mono (above_spec hd hc _) ?_
    rintro _ _ ⟨rfl, rfl⟩
    have hr : apartB c d = !abv d c := by simp [apartB, h1']
    try simp [*]
    repeat (first | with_reducible refine seq_k fun K hK => ?_ | (with_reducible refine region_k fun K hK => ?_; simp [*]) | (with_reducible refine region_draw_k mixedO (by kernel_rfl) fun K hK => ?_; simp [*]) | with_reducible refine pwp_block ?_ | with_reducible refine pwp_skip ?_ | with_reducible refine pwp_ret ?_ | with_reducible refine pwp_exit ?_ | (with_reducible refine cond_t ?_ ?_; (focus (simp [*]; done))) | (with_reducible refine cond_f ?_ ?_; (focus (simp [*]; done))) | with_reducible refine then_n ?_ | with_reducible refine then_r ?_ | with_reducible refine then_e ?_ | with_reducible refine then_g ?_ | with_reducible refine inB_n ?_ | with_reducible refine inB_r ?_ | with_reducible refine inB_e ?_ | with_reducible refine inB_o rfl ?_ | with_reducible refine inB_g ?_ | with_reducible refine Leads.go (by assumption) ?_)
    simp [*]
    exact kg.out
/-! ### one -/
def strK (ks : List Nat) : List Nat := ks.filter fun k => decide (kd k = 1)
def oneB (ks : List Nat) : Bool := (List.range (strK ks).length).all (fun i => !((strK ks).take i).any (apartB ((strK ks).getD i 0))) && !(strK ks).isEmpty
theorem strK_succ {ks : List Nat} {k c : Nat} (h : ks[k]? = some c) : strK (ks.take (k + 1)) = strK (ks.take k) ++ (if kd c = 1 then [c] else []) := by
  rw [List.take_add_one, h, strK, strK, List.filter_append]
  by_cases q : kd c = 1 <;> simp [q]
theorem fz_grow {P : Program} {H : Heap} {acc : D} {l : List Nat} (h : Grow H acc 31 (l.map clD)) : fz P 20 H acc = some (clsD l) := by
  rcases h with ⟨h1, rfl⟩ | ⟨i, _, rfl, hH, hne⟩
  · have : l = [] := by simpa using h1
    subst this; rfl
  · have hl : l ≠ [] := fun q => hne (by rw [q]; rfl)
    rw [fz_row (n := 19) hH hne (fz_cls (P := P) 15 H l), clsD, if_neg (by cases l <;> simp_all)]
@[simp] theorem sz3 : szOf Try.prog 3 = 1 := by kernel_rfl
set_option maxHeartbeats 8000000 in
set_option maxRecDepth 100000 in
theorem one_local (ks : List Nat) (hk10 : ∀ k ∈ ks, k < 10) (hl : ks.length ≤ 1000) (hne : ks ≠ []) : PCalls Try.prog 35 [.slice 0 31 (ks.map clD)] (noHeap noG) fun d H' => d = .val (.bool (oneB ks)) := by
  refine PCalls.of_pwp Try.call35 Try.func35 rfl (by simp [Try.ntmps35]) ?_
  rw [Try.ntmps35]
  repeat (first | with_reducible refine seq_k fun K hK => ?_ | (with_reducible refine region_k fun K hK => ?_; simp [*]) | (with_reducible refine region_draw_k mixedO (by kernel_rfl) fun K hK => ?_; simp [*]) | with_reducible refine pwp_block ?_ | with_reducible refine pwp_skip ?_ | with_reducible refine pwp_ret ?_ | with_reducible refine pwp_exit ?_ | (with_reducible refine cond_t ?_ ?_; (focus (simp [*]; done))) | (with_reducible refine cond_f ?_ ?_; (focus (simp [*]; done))) | with_reducible refine then_n ?_ | with_reducible refine then_r ?_ | with_reducible refine then_e ?_ | with_reducible refine then_g ?_ | with_reducible refine inB_n ?_ | with_reducible refine inB_r ?_ | with_reducible refine inB_e ?_ | with_reducible refine inB_o rfl ?_ | with_reducible refine inB_g ?_ | with_reducible refine Leads.go (by assumption) ?_)
  refine pwp_for ks.length (fun k st => st.env.n = 40 ∧ st.df = [] ∧ slots st.env [(9, .slice 0 31 (ks.map clD)), (10, .val (.int .i64 ks.length)), (11, .val (.int .i64 k))] ∧ Grow st.H (st.env.get 3) 31 ((strK (ks.take k)).map clD)) ?_ ?_ ?_
  · refine ⟨by simp, rfl, by simp, .inl ⟨by simp [strK], by simp⟩⟩
  · rintro k ⟨E, H, df⟩ h ⟨en, edf, ⟨e9, e10, e11, -⟩, eA⟩
    simp only at en edf e9 e10 e11 eA
    subst edf
    obtain ⟨acc, e3⟩ : ∃ y, E.get 3 = y := ⟨_, rfl⟩
    rw [e3] at eA
    have hki : (k : Int) < (ks.length : Int) := by omega
    obtain ⟨c, hc⟩ : ∃ c, ks[k]? = some c := ⟨_, List.getElem?_eq_getElem h⟩
    have hL : (ks.map clD)[k]? = some (clD c) := by rw [List.getElem?_map, hc]; rfl
    have hge := get_of hL
    have hLl : (ks.map clD).length = ks.length := by simp
    have hw := wrapSucc k (by omega)
    have hT := strK_succ hc
    have hlen : (strK (ks.take k)).length ≤ 1000 := by
      have := List.length_filter_le (fun k => decide (kd k = 1)) (ks.take k)
      unfold strK; simp at this; omega
    generalize ks.map clD = L at *
    have hAl : ((strK (ks.take k)).map clD).length = (strK (ks.take k)).length := by simp
    obtain ⟨A, hA⟩ : ∃ A, A = (strK (ks.take k)).map clD := ⟨_, rfl⟩
    have hA2 : (strK (ks.take (k + 1))).map clD = A ++ (if kd c = 1 then [clD c] else []) := by rw [hT, List.map_append, hA]; split <;> simp
    rw [← hA] at eA hAl
    have kA2 := Hold.mk hA2
    have hAl2 : A.length ≤ 1000 := by omega
    clear hA hA2 hT hAl hlen
    by_cases h1 : kd c = 1
    · rcases eA with ⟨eA1, rfl⟩ | ⟨i, hi, rfl, hH, hne⟩
      · repeat (first | with_reducible refine seq_k fun K hK => ?_ | (with_reducible refine region_k fun K hK => ?_; simp [*]) | (with_reducible refine region_draw_k mixedO (by kernel_rfl) fun K hK => ?_; simp [*]) | with_reducible refine pwp_block ?_ | with_reducible refine pwp_skip ?_ | with_reducible refine pwp_ret ?_ | with_reducible refine pwp_exit ?_ | (with_reducible refine cond_t ?_ ?_; (focus (simp [*]; done))) | (with_reducible refine cond_f ?_ ?_; (focus (simp [*]; done))) | with_reducible refine then_n ?_ | with_reducible refine then_r ?_ | with_reducible refine then_e ?_ | with_reducible refine then_g ?_ | with_reducible refine inB_n ?_ | with_reducible refine inB_r ?_ | with_reducible refine inB_e ?_ | with_reducible refine inB_o rfl ?_ | with_reducible refine inB_g ?_ | with_reducible refine Leads.go (by assumption) ?_)
        refine ⟨by simp [*], rfl, by simp [*], ?_⟩
        rw [kA2.out, if_pos h1, eA1]
        simp [*]
        exact .inr ⟨_, by simp, rfl, by simp [clD, h1, strD], by simp⟩
      · have hi1 : i ≠ H.nx := by omega
        have hi2 : i ≠ H.nx + 1 := by omega
        have hAt : A.take A.length = A := List.take_length
        have hAb : (A.length + 1) * 104 ≤ 140737488355328 := by omega
        repeat (first | with_reducible refine seq_k fun K hK => ?_ | (with_reducible refine region_k fun K hK => ?_; simp [*]) | (with_reducible refine region_draw_k mixedO (by kernel_rfl) fun K hK => ?_; simp [*]) | with_reducible refine pwp_block ?_ | with_reducible refine pwp_skip ?_ | with_reducible refine pwp_ret ?_ | with_reducible refine pwp_exit ?_ | (with_reducible refine cond_t ?_ ?_; (focus (simp [*]; done))) | (with_reducible refine cond_f ?_ ?_; (focus (simp [*]; done))) | with_reducible refine then_n ?_ | with_reducible refine then_r ?_ | with_reducible refine then_e ?_ | with_reducible refine then_g ?_ | with_reducible refine inB_n ?_ | with_reducible refine inB_r ?_ | with_reducible refine inB_e ?_ | with_reducible refine inB_o rfl ?_ | with_reducible refine inB_g ?_ | with_reducible refine Leads.go (by assumption) ?_)
        refine ⟨by simp [*], rfl, by simp [*], ?_⟩
        rw [kA2.out, if_pos h1]
        simp [*]
        exact .inr ⟨H.nx + 1 + 1, by simp, by simp, by simp [clD, h1, strD], by simp⟩
    · have eA' := Hold.mk (grow_keep (H' := (H.new (PObj.cells (cellsD (clD 10)))).put H.nx (some (PObj.cells (cellsD (clD c))))) eA (fun j hj _ _ _ _ => by rw [Heap.put_ne _ _ (by omega), Heap.new_ne _ _ (by omega)]) (by simp))
      clear eA
      repeat (first | with_reducible refine seq_k fun K hK => ?_ | (with_reducible refine region_k fun K hK => ?_; simp [*]) | (with_reducible refine region_draw_k mixedO (by kernel_rfl) fun K hK => ?_; simp [*]) | with_reducible refine pwp_block ?_ | with_reducible refine pwp_skip ?_ | with_reducible refine pwp_ret ?_ | with_reducible refine pwp_exit ?_ | (with_reducible refine cond_t ?_ ?_; (focus (simp [*]; done))) | (with_reducible refine cond_f ?_ ?_; (focus (simp [*]; done))) | with_reducible refine then_n ?_ | with_reducible refine then_r ?_ | with_reducible refine then_e ?_ | with_reducible refine then_g ?_ | with_reducible refine inB_n ?_ | with_reducible refine inB_r ?_ | with_reducible refine inB_e ?_ | with_reducible refine inB_o rfl ?_ | with_reducible refine inB_g ?_ | with_reducible refine Leads.go (by assumption) ?_)
      refine ⟨by simp [*], rfl, by simp [*], ?_⟩
      rw [kA2.out, if_neg h1, List.append_nil]
      simp [*]
      exact eA'.out
  · rintro ⟨E, H, df⟩ ⟨en, edf, ⟨e9, e10, e11, -⟩, eA⟩
    simp only at en edf e9 e10 e11 eA
    subst edf
    rw [List.take_length] at eA
    refine pwp_freeze (k := 20) [(3, clsD (strK ks))] ?_ ?_
    · intro p hp
      simp only [List.mem_singleton] at hp
      subst hp
      exact fz_grow eA
    simp only [setAll_cons, setAll_nil]
    by_cases hs : strK ks = []
    · have hcl : clsD (strK ks) = .slice 1 0 [] := by rw [hs]; rfl
      have hob : oneB ks = false := by simp [oneB, hs]
      rw [hcl]
      clear hcl hs
      repeat (first | with_reducible refine seq_k fun K hK => ?_ | (with_reducible refine region_k fun K hK => ?_; simp [*]) | (with_reducible refine region_draw_k mixedO (by kernel_rfl) fun K hK => ?_; simp [*]) | with_reducible refine pwp_block ?_ | with_reducible refine pwp_skip ?_ | with_reducible refine pwp_ret ?_ | with_reducible refine pwp_exit ?_ | (with_reducible refine cond_t ?_ ?_; (focus (simp [*]; done))) | (with_reducible refine cond_f ?_ ?_; (focus (simp [*]; done))) | with_reducible refine then_n ?_ | with_reducible refine then_r ?_ | with_reducible refine then_e ?_ | with_reducible refine then_g ?_ | with_reducible refine inB_n ?_ | with_reducible refine inB_r ?_ | with_reducible refine inB_e ?_ | with_reducible refine inB_o rfl ?_ | with_reducible refine inB_g ?_ | with_reducible refine Leads.go (by assumption) ?_)
      refine pwp_for 0 (fun k st => st.env.n = 40 ∧ st.df = [] ∧ slots st.env [(3, .slice 1 0 []), (24, .val (.int .i64 0)), (25, .val (.int .i64 0))]) ?_ ?_ ?_
      · simp [*]
      · intro k st h; omega
      · clear en e9 e10 e11
        rintro ⟨E, H, df⟩ ⟨en, edf, ⟨e3, e24, e25, -⟩⟩
        simp only at en edf e3 e24 e25
        subst edf
        repeat (first | with_reducible refine seq_k fun K hK => ?_ | (with_reducible refine region_k fun K hK => ?_; simp [*]) | (with_reducible refine region_draw_k mixedO (by kernel_rfl) fun K hK => ?_; simp [*]) | with_reducible refine pwp_block ?_ | with_reducible refine pwp_skip ?_ | with_reducible refine pwp_ret ?_ | with_reducible refine pwp_exit ?_ | (with_reducible refine cond_t ?_ ?_; (focus (simp [*]; done))) | (with_reducible refine cond_f ?_ ?_; (focus (simp [*]; done))) | with_reducible refine then_n ?_ | with_reducible refine then_r ?_ | with_reducible refine then_e ?_ | with_reducible refine then_g ?_ | with_reducible refine inB_n ?_ | with_reducible refine inB_r ?_ | with_reducible refine inB_e ?_ | with_reducible refine inB_o rfl ?_ | with_reducible refine inB_g ?_ | with_reducible refine Leads.go (by assumption) ?_)
        simp [*]
    · have hcl : clsD (strK ks) = .slice 0 31 ((strK ks).map clD) := by rw [clsD, if_neg (by cases hq : strK ks <;> simp_all)]
      have hs10 : ∀ k ∈ strK ks, k < 10 := fun k hk => hk10 k (List.mem_filter.1 hk).1
      have hsl : (strK ks).length ≤ 1000 := by
        have := List.length_filter_le (fun k => decide (kd k = 1)) ks
        unfold strK; omega
      have hob := Hold.mk (show oneB ks = _ from rfl)
      have hpos : 0 < (strK ks).length := by cases hq : strK ks <;> simp_all
      have kob : Hold (oneB ks = ((List.range (strK ks).length).all (fun i => !((strK ks).take i).any (apartB ((strK ks).getD i 0))))) := ⟨by rw [oneB]; cases hq : strK ks <;> simp_all⟩
      rw [hcl]
      clear hob hcl
      generalize strK ks = st at *
      repeat (first | with_reducible refine seq_k fun K hK => ?_ | (with_reducible refine region_k fun K hK => ?_; simp [*]) | (with_reducible refine region_draw_k mixedO (by kernel_rfl) fun K hK => ?_; simp [*]) | with_reducible refine pwp_block ?_ | with_reducible refine pwp_skip ?_ | with_reducible refine pwp_ret ?_ | with_reducible refine pwp_exit ?_ | (with_reducible refine cond_t ?_ ?_; (focus (simp [*]; done))) | (with_reducible refine cond_f ?_ ?_; (focus (simp [*]; done))) | with_reducible refine then_n ?_ | with_reducible refine then_r ?_ | with_reducible refine then_e ?_ | with_reducible refine then_g ?_ | with_reducible refine inB_n ?_ | with_reducible refine inB_r ?_ | with_reducible refine inB_e ?_ | with_reducible refine inB_o rfl ?_ | with_reducible refine inB_g ?_ | with_reducible refine Leads.go (by assumption) ?_)
      refine pwp_for st.length (fun k s => s.env.n = 40 ∧ s.df = [] ∧ slots s.env [(3, .slice 0 31 (st.map clD)), (23, .slice 0 31 (st.map clD)), (24, .val (.int .i64 st.length)), (25, .val (.int .i64 k))] ∧ (List.range k).all (fun i => !(st.take i).any (apartB (st.getD i 0))) = true) ?_ ?_ ?_
      · simp [*]
      · clear en e9 e10 e11
        rintro k ⟨E, H, df⟩ h ⟨en, edf, ⟨e3, e23, e24, e25, -⟩, eP⟩
        simp only at en edf e3 e23 e24 e25
        subst edf
        have hki : (k : Int) < (st.length : Int) := by omega
        have hki2 : (k : Int) ≤ (st.length : Int) := by omega
        have hki3 : k ≤ st.length := by omega
        obtain ⟨c, hc⟩ : ∃ c, st[k]? = some c := ⟨_, List.getElem?_eq_getElem h⟩
        have hL : (st.map clD)[k]? = some (clD c) := by rw [List.getElem?_map, hc]; rfl
        have hge := get_of hL
        have hLl : (st.map clD).length = st.length := by simp
        have hw := wrapSucc k (by omega)
        have hLk := Hold.mk (show (st.map clD).take k = (st.take k).map clD by rw [List.map_take])
        have hT : (List.range (k + 1)).all (fun i => !(st.take i).any (apartB (st.getD i 0))) = !(st.take k).any (apartB c) := by
          rw [List.range_succ, List.all_append, eP]
          simp [List.getD, hc]
        have hc10 := hs10 c (List.mem_of_getElem? hc)
        have kT := Hold.mk hT
        have kP := Hold.mk eP
        have kc := Hold.mk hc
        clear hT eP hc
        generalize st.map clD = L at *
        repeat (first | with_reducible refine seq_k fun K hK => ?_ | (with_reducible refine region_k fun K hK => ?_; simp [*]) | (with_reducible refine region_draw_k mixedO (by kernel_rfl) fun K hK => ?_; simp [*]) | with_reducible refine pwp_block ?_ | with_reducible refine pwp_skip ?_ | with_reducible refine pwp_ret ?_ | with_reducible refine pwp_exit ?_ | (with_reducible refine cond_t ?_ ?_; (focus (simp [*]; done))) | (with_reducible refine cond_f ?_ ?_; (focus (simp [*]; done))) | with_reducible refine then_n ?_ | with_reducible refine then_r ?_ | with_reducible refine then_e ?_ | with_reducible refine then_g ?_ | with_reducible refine inB_n ?_ | with_reducible refine inB_r ?_ | with_reducible refine inB_e ?_ | with_reducible refine inB_o rfl ?_ | with_reducible refine inB_g ?_ | with_reducible refine Leads.go (by assumption) ?_)
        rw [hLk.out]
        refine PCalls.mono (containsC_spec 0 (st.take k) 41 H.nx (apartB c) _ (fun d hd H2 hg => one1_spec hc10 (hs10 d (List.mem_of_mem_take hd)) H.nx H2 ?_ ?_) (by simp; omega)) ?_
        · rw [hg.2 H.nx (by simp)]; simp
        · exact Nat.lt_of_lt_of_le (by simp) hg.1
        rintro _ H2 ⟨rfl, _⟩
        by_cases h1 : (st.take k).any (apartB c) = true
        · have hr : oneB ks = false := by
            rw [kob.out, List.all_eq_false]
            exact ⟨k, List.mem_range.2 h, by simp only [List.getD, kc.out, Option.getD_some]; simp [h1]⟩
          generalize (st.take k).any (apartB c) = bb at *
          subst h1
          try simp [*]
          repeat (first | with_reducible refine seq_k fun K hK => ?_ | (with_reducible refine region_k fun K hK => ?_; simp [*]) | (with_reducible refine region_draw_k mixedO (by kernel_rfl) fun K hK => ?_; simp [*]) | with_reducible refine pwp_block ?_ | with_reducible refine pwp_skip ?_ | with_reducible refine pwp_ret ?_ | with_reducible refine pwp_exit ?_ | (with_reducible refine cond_t ?_ ?_; (focus (simp [*]; done))) | (with_reducible refine cond_f ?_ ?_; (focus (simp [*]; done))) | with_reducible refine then_n ?_ | with_reducible refine then_r ?_ | with_reducible refine then_e ?_ | with_reducible refine then_g ?_ | with_reducible refine inB_n ?_ | with_reducible refine inB_r ?_ | with_reducible refine inB_e ?_ | with_reducible refine inB_o rfl ?_ | with_reducible refine inB_g ?_ | with_reducible refine Leads.go (by assumption) ?_)
          simp [*]
        · have h1' : (st.take k).any (apartB c) = false := by simpa using h1
          have hT2 := kT.out
          rw [h1'] at hT2 ⊢
          clear h1 h1' kT
          have kT2 := Hold.mk hT2
          clear hT2
          try simp [*]
          repeat (first | with_reducible refine seq_k fun K hK => ?_ | (with_reducible refine region_k fun K hK => ?_; simp [*]) | (with_reducible refine region_draw_k mixedO (by kernel_rfl) fun K hK => ?_; simp [*]) | with_reducible refine pwp_block ?_ | with_reducible refine pwp_skip ?_ | with_reducible refine pwp_ret ?_ | with_reducible refine pwp_exit ?_ | (with_reducible refine cond_t ?_ ?_; (focus (simp [*]; done))) | (with_reducible refine cond_f ?_ ?_; (focus (simp [*]; done))) | with_reducible refine then_n ?_ | with_reducible refine then_r ?_ | with_reducible refine then_e ?_ | with_reducible refine then_g ?_ | with_reducible refine inB_n ?_ | with_reducible refine inB_r ?_ | with_reducible refine inB_e ?_ | with_reducible refine inB_o rfl ?_ | with_reducible refine inB_g ?_ | with_reducible refine Leads.go (by assumption) ?_)
          refine ⟨by simp [*], rfl, by simp [*], kT2.out⟩
      · clear en e9 e10 e11
        rintro ⟨E, H, df⟩ ⟨en, edf, ⟨e3, e23, e24, e25, -⟩, eP⟩
        simp only at en edf e3 e23 e24 e25
        subst edf
        have hr : oneB ks = true := by rw [kob.out]; exact eP
        clear eP kob
        repeat (first | with_reducible refine seq_k fun K hK => ?_ | (with_reducible refine region_k fun K hK => ?_; simp [*]) | (with_reducible refine region_draw_k mixedO (by kernel_rfl) fun K hK => ?_; simp [*]) | with_reducible refine pwp_block ?_ | with_reducible refine pwp_skip ?_ | with_reducible refine pwp_ret ?_ | with_reducible refine pwp_exit ?_ | (with_reducible refine cond_t ?_ ?_; (focus (simp [*]; done))) | (with_reducible refine cond_f ?_ ?_; (focus (simp [*]; done))) | with_reducible refine then_n ?_ | with_reducible refine then_r ?_ | with_reducible refine then_e ?_ | with_reducible refine then_g ?_ | with_reducible refine inB_n ?_ | with_reducible refine inB_r ?_ | with_reducible refine inB_e ?_ | with_reducible refine inB_o rfl ?_ | with_reducible refine inB_g ?_ | with_reducible refine Leads.go (by assumption) ?_)
        simp [*]
theorem one_spec (ks : List Nat) (hk10 : ∀ k ∈ ks, k < 10) (hl : ks.length ≤ 1000) (H : Heap) : PCalls Try.prog 35 [clsD ks] H fun d H' => d = .val (.bool (oneB ks)) ∧ H' = H := by
  by_cases hne : ks = []
  · subst hne
    exact PCalls.liftG (runFz_spec (n := 50) mixedO (by kernel_rfl)) (fun d hd => by simp only [List.mem_cons, List.mem_nil_iff, or_false] at hd; subst hd; exact pure_clsD _) (.val _) H
  · have hcl : clsD ks = .slice 0 31 (ks.map clD) := by rw [clsD, if_neg (by cases hq : ks <;> simp_all)]
    rw [hcl]
    exact PCalls.liftG (one_local ks hk10 hl hne) (fun d hd => by simp only [List.mem_cons, List.mem_nil_iff, or_false] at hd; subst hd; exact pure_cls _ _ _) (.val _) H
end Go.Pv
