/- A part of the proof: functions of the program, walked, or what operations come to. -/
import Derived.Test.YtmaajijhfpdefaaPvS11
namespace Go.Pv
open Go.Proofs
/-! ### Find -/
attribute [local simp] Try.underlying23 Try.underlying37 Try.underlying29 strD
@[simp] theorem sz23 : szOf Try.prog 23 = 5 := by kernel_rfl
def atZ : D := .agg [.val (.string ⟨#[]⟩), .val (.string ⟨#[]⟩), .val (.string ⟨#[]⟩), .val (.int .i64 0), .val (.bool false)]
@[simp] theorem zd23 : zeroD Try.prog 23 = some (cellsD (atD 20)) := by kernel_rfl
@[simp] theorem ze23 : zeroElem Try.prog 23 = some (atD 20) := by kernel_rfl
@[simp] theorem cells_at (k : Nat) : cellsD (atD k) = [strD (an k), strD (aa k), strD (ao k), .val (.int .i64 (asy k)), .val (.bool (asi k))] := rfl
@[simp] theorem res8 : Try.f8.results.toList = [.cell 2 23, .tmp 3] := rfl
@[simp] theorem places23 : placesOf Try.prog 23 = some [(0, 1), (1, 1), (2, 1), (3, 1), (4, 1)] := by kernel_rfl
attribute [local simp] fillD
def hitA1 (s : ByteArray) (k : Nat) : Bool := decide ((lowS s).data = (lowS (an k)).data)
def hitA2 (s : ByteArray) (k : Nat) : Bool := !decide ((lowS s).data = #[]) && decide ((lowS s).data = (lowS (aa k)).data)
def hitA3 (s : ByteArray) (k : Nat) : Bool := decide (s.data = (ao k).data)
def hitA (s : ByteArray) (k : Nat) : Bool := hitA1 s k || hitA2 s k || hitA3 s k
def fat (s : ByteArray) : Nat := ((List.range 20).find? (hitA s)).getD 20
theorem an_small (k : Nat) : (an k).size ≤ 140737488351232 := by unfold an; split <;> decide
theorem aa_small (k : Nat) : (aa k).size ≤ 140737488351232 := by unfold aa; split <;> decide
attribute [local simp] Heap.new_ne Heap.put_ne
theorem fat_of {s : ByteArray} {k : Nat} (hk : k < 20) (h : hitA s k = true) (hj : ∀ j, j < k → hitA s j = false) : fat s = k := by rw [fat, find_range _ 20 k hk h hj]; rfl
theorem fat_none {s : ByteArray} (hj : ∀ j, j < 20 → hitA s j = false) : fat s = 20 := by rw [fat, find_range_none _ 20 hj]; rfl
set_option maxHeartbeats 4000000 in
set_option maxRecDepth 100000 in
theorem Find_local (s : ByteArray) (hs : s.size ≤ 140737488351232) : PCalls Try.prog 8 [strD s] (noHeap noG) fun d _ => d = .tup [atD (fat s), .val (.bool (decide (fat s < 20)))] := by
  refine PCalls.of_pwp Try.call8 Try.func8 rfl (by simp [Try.ntmps8]) ?_
  rw [Try.ntmps8]
  repeat (first | with_reducible refine seq_k fun K hK => ?_ | (with_reducible refine region_k fun K hK => ?_; simp [*]) | (with_reducible refine region_draw_k mixedO (by kernel_rfl) fun K hK => ?_; simp [*]) | with_reducible refine pwp_block ?_ | with_reducible refine pwp_skip ?_ | with_reducible refine pwp_ret ?_ | with_reducible refine pwp_exit ?_ | (with_reducible refine cond_t ?_ ?_; (focus (simp [*]; done))) | (with_reducible refine cond_f ?_ ?_; (focus (simp [*]; done))) | with_reducible refine then_n ?_ | with_reducible refine then_r ?_ | with_reducible refine then_e ?_ | with_reducible refine then_g ?_ | with_reducible refine inB_n ?_ | with_reducible refine inB_r ?_ | with_reducible refine inB_e ?_ | with_reducible refine inB_o rfl ?_ | with_reducible refine inB_g ?_ | with_reducible refine Leads.go (by assumption) ?_)
  refine PCalls.mono (Lower_spec s _ hs) ?_
  rintro _ H ⟨rfl, rfl⟩
  try simp [*]
  repeat (first | with_reducible refine seq_k fun K hK => ?_ | (with_reducible refine region_k fun K hK => ?_; simp [*]) | (with_reducible refine region_draw_k mixedO (by kernel_rfl) fun K hK => ?_; simp [*]) | with_reducible refine pwp_block ?_ | with_reducible refine pwp_skip ?_ | with_reducible refine pwp_ret ?_ | with_reducible refine pwp_exit ?_ | (with_reducible refine cond_t ?_ ?_; (focus (simp [*]; done))) | (with_reducible refine cond_f ?_ ?_; (focus (simp [*]; done))) | with_reducible refine then_n ?_ | with_reducible refine then_r ?_ | with_reducible refine then_e ?_ | with_reducible refine then_g ?_ | with_reducible refine inB_n ?_ | with_reducible refine inB_r ?_ | with_reducible refine inB_e ?_ | with_reducible refine inB_o rfl ?_ | with_reducible refine inB_g ?_ | with_reducible refine Leads.go (by assumption) ?_)
  refine PCalls.mono (Attributes_spec _) ?_
  rintro _ H ⟨rfl, rfl⟩
  try simp [*]
  repeat (first | with_reducible refine seq_k fun K hK => ?_ | (with_reducible refine region_k fun K hK => ?_; simp [*]) | (with_reducible refine region_draw_k mixedO (by kernel_rfl) fun K hK => ?_; simp [*]) | with_reducible refine pwp_block ?_ | with_reducible refine pwp_skip ?_ | with_reducible refine pwp_ret ?_ | with_reducible refine pwp_exit ?_ | (with_reducible refine cond_t ?_ ?_; (focus (simp [*]; done))) | (with_reducible refine cond_f ?_ ?_; (focus (simp [*]; done))) | with_reducible refine then_n ?_ | with_reducible refine then_r ?_ | with_reducible refine then_e ?_ | with_reducible refine then_g ?_ | with_reducible refine inB_n ?_ | with_reducible refine inB_r ?_ | with_reducible refine inB_e ?_ | with_reducible refine inB_o rfl ?_ | with_reducible refine inB_g ?_ | with_reducible refine Leads.go (by assumption) ?_)
  refine pwp_for 20 (fun k st => st.env.n = 40 ∧ st.df = [] ∧ slots st.env [(0, .val (.string s)), (2, .ptr 0 0), (4, .val (.string (lowS s))), (9, .slice 0 23 ((List.range 20).map atD)), (10, .val (.int .i64 20)), (11, .val (.int .i64 k))] ∧
    0 < st.H.nx ∧ st.H.get 0 = some (.cells (cellsD (atD 20))) ∧ ∀ j, j < k → hitA s j = false) ?_ ?_ ?_
  · refine ⟨by simp, rfl, by simp; rfl, Nat.zero_lt_succ _, Heap.new_same _ _, fun j hj => by omega⟩
  · rintro k ⟨E, H, df⟩ h ⟨en, edf, ⟨e0, e2, e4, e9, e10, e11, -⟩, eN, eH, eP⟩
    simp only at en edf e0 e2 e4 e9 e10 e11 eN eH
    subst edf
    have hki : (k : Int) < 20 := by omega
    have hL : ((List.range 20).map atD)[k]? = some (atD k) := by rw [List.getElem?_map, List.getElem?_range h]; rfl
    have hLl : ((List.range 20).map atD).length = 20 := by simp
    have hge := get_of hL
    generalize (List.range 20).map atD = L at *
    have hn0 : (0 : Nat) ≠ H.nx := by omega
    have hw := wrapSucc k (by omega)
    have hpre := eP
    have kP := Hold.mk eP
    clear eP hpre
    by_cases h1 : (lowS s).data = (lowS (an k)).data
    · have hf : fat s = k := fat_of h (by simp [hitA, hitA1, h1]) kP.out
      repeat (first | with_reducible refine seq_k fun K hK => ?_ | (with_reducible refine region_k fun K hK => ?_; simp [*]) | (with_reducible refine region_draw_k mixedO (by kernel_rfl) fun K hK => ?_; simp [*]) | with_reducible refine pwp_block ?_ | with_reducible refine pwp_skip ?_ | with_reducible refine pwp_ret ?_ | with_reducible refine pwp_exit ?_ | (with_reducible refine cond_t ?_ ?_; (focus (simp [*]; done))) | (with_reducible refine cond_f ?_ ?_; (focus (simp [*]; done))) | with_reducible refine then_n ?_ | with_reducible refine then_r ?_ | with_reducible refine then_e ?_ | with_reducible refine then_g ?_ | with_reducible refine inB_n ?_ | with_reducible refine inB_r ?_ | with_reducible refine inB_e ?_ | with_reducible refine inB_o rfl ?_ | with_reducible refine inB_g ?_ | with_reducible refine Leads.go (by assumption) ?_)
      refine PCalls.mono (Lower_spec (an k) _ (an_small k)) ?_
      rintro _ H ⟨rfl, rfl⟩
      try simp [*]
      repeat (first | with_reducible refine seq_k fun K hK => ?_ | (with_reducible refine region_k fun K hK => ?_; simp [*]) | (with_reducible refine region_draw_k mixedO (by kernel_rfl) fun K hK => ?_; simp [*]) | with_reducible refine pwp_block ?_ | with_reducible refine pwp_skip ?_ | with_reducible refine pwp_ret ?_ | with_reducible refine pwp_exit ?_ | (with_reducible refine cond_t ?_ ?_; (focus (simp [*]; done))) | (with_reducible refine cond_f ?_ ?_; (focus (simp [*]; done))) | with_reducible refine then_n ?_ | with_reducible refine then_r ?_ | with_reducible refine then_e ?_ | with_reducible refine then_g ?_ | with_reducible refine inB_n ?_ | with_reducible refine inB_r ?_ | with_reducible refine inB_e ?_ | with_reducible refine inB_o rfl ?_ | with_reducible refine inB_g ?_ | with_reducible refine Leads.go (by assumption) ?_)
      rw [hf]
      simp [*]
      rfl
    · by_cases h2 : (lowS s).data = #[]
      · have h1' : ¬ (lowS (an k)).data = #[] := fun q => h1 (h2.trans q.symm)
        by_cases h3 : s.data = (ao k).data
        · have hf : fat s = k := fat_of h (by simp [hitA, hitA3, h3]) kP.out
          repeat (first | with_reducible refine seq_k fun K hK => ?_ | (with_reducible refine region_k fun K hK => ?_; simp [*]) | (with_reducible refine region_draw_k mixedO (by kernel_rfl) fun K hK => ?_; simp [*]) | with_reducible refine pwp_block ?_ | with_reducible refine pwp_skip ?_ | with_reducible refine pwp_ret ?_ | with_reducible refine pwp_exit ?_ | (with_reducible refine cond_t ?_ ?_; (focus (simp [*]; done))) | (with_reducible refine cond_f ?_ ?_; (focus (simp [*]; done))) | with_reducible refine then_n ?_ | with_reducible refine then_r ?_ | with_reducible refine then_e ?_ | with_reducible refine then_g ?_ | with_reducible refine inB_n ?_ | with_reducible refine inB_r ?_ | with_reducible refine inB_e ?_ | with_reducible refine inB_o rfl ?_ | with_reducible refine inB_g ?_ | with_reducible refine Leads.go (by assumption) ?_)
          refine PCalls.mono (Lower_spec (an k) _ (an_small k)) ?_
          rintro _ H ⟨rfl, rfl⟩
          try simp [*]
          repeat (first | with_reducible refine seq_k fun K hK => ?_ | (with_reducible refine region_k fun K hK => ?_; simp [*]) | (with_reducible refine region_draw_k mixedO (by kernel_rfl) fun K hK => ?_; simp [*]) | with_reducible refine pwp_block ?_ | with_reducible refine pwp_skip ?_ | with_reducible refine pwp_ret ?_ | with_reducible refine pwp_exit ?_ | (with_reducible refine cond_t ?_ ?_; (focus (simp [*]; done))) | (with_reducible refine cond_f ?_ ?_; (focus (simp [*]; done))) | with_reducible refine then_n ?_ | with_reducible refine then_r ?_ | with_reducible refine then_e ?_ | with_reducible refine then_g ?_ | with_reducible refine inB_n ?_ | with_reducible refine inB_r ?_ | with_reducible refine inB_e ?_ | with_reducible refine inB_o rfl ?_ | with_reducible refine inB_g ?_ | with_reducible refine Leads.go (by assumption) ?_)
          rw [hf]
          simp [*]
          rfl
        · have hk := kP.out
          have hno : hitA s k = false := by simp [hitA, hitA1, hitA2, hitA3, h1', h2, h3]; try exact fun q => h1' q.symm
          have hk2 : ∀ j, j < k + 1 → hitA s j = false := fun j hj => by
            rcases Nat.lt_or_ge j k with q | q
            · exact hk j q
            · obtain rfl : j = k := by omega
              exact hno
          have kP2 := Hold.mk hk2
          clear hk hk2 hno
          repeat (first | with_reducible refine seq_k fun K hK => ?_ | (with_reducible refine region_k fun K hK => ?_; simp [*]) | (with_reducible refine region_draw_k mixedO (by kernel_rfl) fun K hK => ?_; simp [*]) | with_reducible refine pwp_block ?_ | with_reducible refine pwp_skip ?_ | with_reducible refine pwp_ret ?_ | with_reducible refine pwp_exit ?_ | (with_reducible refine cond_t ?_ ?_; (focus (simp [*]; done))) | (with_reducible refine cond_f ?_ ?_; (focus (simp [*]; done))) | with_reducible refine then_n ?_ | with_reducible refine then_r ?_ | with_reducible refine then_e ?_ | with_reducible refine then_g ?_ | with_reducible refine inB_n ?_ | with_reducible refine inB_r ?_ | with_reducible refine inB_e ?_ | with_reducible refine inB_o rfl ?_ | with_reducible refine inB_g ?_ | with_reducible refine Leads.go (by assumption) ?_)
          refine PCalls.mono (Lower_spec (an k) _ (an_small k)) ?_
          rintro _ H ⟨rfl, rfl⟩
          try simp [*]
          repeat (first | with_reducible refine seq_k fun K hK => ?_ | (with_reducible refine region_k fun K hK => ?_; simp [*]) | (with_reducible refine region_draw_k mixedO (by kernel_rfl) fun K hK => ?_; simp [*]) | with_reducible refine pwp_block ?_ | with_reducible refine pwp_skip ?_ | with_reducible refine pwp_ret ?_ | with_reducible refine pwp_exit ?_ | (with_reducible refine cond_t ?_ ?_; (focus (simp [*]; done))) | (with_reducible refine cond_f ?_ ?_; (focus (simp [*]; done))) | with_reducible refine then_n ?_ | with_reducible refine then_r ?_ | with_reducible refine then_e ?_ | with_reducible refine then_g ?_ | with_reducible refine inB_n ?_ | with_reducible refine inB_r ?_ | with_reducible refine inB_e ?_ | with_reducible refine inB_o rfl ?_ | with_reducible refine inB_g ?_ | with_reducible refine Leads.go (by assumption) ?_)
          simp [*]
          exact kP2.out
      · by_cases h4 : (lowS s).data = (lowS (aa k)).data
        · have h2' : ¬ (lowS (aa k)).data = #[] := fun q => h2 (h4.trans q)
          have hf : fat s = k := fat_of h (by simp [hitA, hitA2, h2, h4, h2']) kP.out
          have h1' : ¬ (lowS (aa k)).data = (lowS (an k)).data := fun q => h1 (h4.trans q)
          repeat (first | with_reducible refine seq_k fun K hK => ?_ | (with_reducible refine region_k fun K hK => ?_; simp [*]) | (with_reducible refine region_draw_k mixedO (by kernel_rfl) fun K hK => ?_; simp [*]) | with_reducible refine pwp_block ?_ | with_reducible refine pwp_skip ?_ | with_reducible refine pwp_ret ?_ | with_reducible refine pwp_exit ?_ | (with_reducible refine cond_t ?_ ?_; (focus (simp [*]; done))) | (with_reducible refine cond_f ?_ ?_; (focus (simp [*]; done))) | with_reducible refine then_n ?_ | with_reducible refine then_r ?_ | with_reducible refine then_e ?_ | with_reducible refine then_g ?_ | with_reducible refine inB_n ?_ | with_reducible refine inB_r ?_ | with_reducible refine inB_e ?_ | with_reducible refine inB_o rfl ?_ | with_reducible refine inB_g ?_ | with_reducible refine Leads.go (by assumption) ?_)
          refine PCalls.mono (Lower_spec (an k) _ (an_small k)) ?_
          rintro _ H ⟨rfl, rfl⟩
          try simp [*]
          repeat (first | with_reducible refine seq_k fun K hK => ?_ | (with_reducible refine region_k fun K hK => ?_; simp [*]) | (with_reducible refine region_draw_k mixedO (by kernel_rfl) fun K hK => ?_; simp [*]) | with_reducible refine pwp_block ?_ | with_reducible refine pwp_skip ?_ | with_reducible refine pwp_ret ?_ | with_reducible refine pwp_exit ?_ | (with_reducible refine cond_t ?_ ?_; (focus (simp [*]; done))) | (with_reducible refine cond_f ?_ ?_; (focus (simp [*]; done))) | with_reducible refine then_n ?_ | with_reducible refine then_r ?_ | with_reducible refine then_e ?_ | with_reducible refine then_g ?_ | with_reducible refine inB_n ?_ | with_reducible refine inB_r ?_ | with_reducible refine inB_e ?_ | with_reducible refine inB_o rfl ?_ | with_reducible refine inB_g ?_ | with_reducible refine Leads.go (by assumption) ?_)
          refine PCalls.mono (Lower_spec (aa k) _ (aa_small k)) ?_
          rintro _ H ⟨rfl, rfl⟩
          try simp [*]
          repeat (first | with_reducible refine seq_k fun K hK => ?_ | (with_reducible refine region_k fun K hK => ?_; simp [*]) | (with_reducible refine region_draw_k mixedO (by kernel_rfl) fun K hK => ?_; simp [*]) | with_reducible refine pwp_block ?_ | with_reducible refine pwp_skip ?_ | with_reducible refine pwp_ret ?_ | with_reducible refine pwp_exit ?_ | (with_reducible refine cond_t ?_ ?_; (focus (simp [*]; done))) | (with_reducible refine cond_f ?_ ?_; (focus (simp [*]; done))) | with_reducible refine then_n ?_ | with_reducible refine then_r ?_ | with_reducible refine then_e ?_ | with_reducible refine then_g ?_ | with_reducible refine inB_n ?_ | with_reducible refine inB_r ?_ | with_reducible refine inB_e ?_ | with_reducible refine inB_o rfl ?_ | with_reducible refine inB_g ?_ | with_reducible refine Leads.go (by assumption) ?_)
          rw [hf]
          simp [*]
          rfl
        · by_cases h3 : s.data = (ao k).data
          · have hf : fat s = k := fat_of h (by simp [hitA, hitA3, h3]) kP.out
            repeat (first | with_reducible refine seq_k fun K hK => ?_ | (with_reducible refine region_k fun K hK => ?_; simp [*]) | (with_reducible refine region_draw_k mixedO (by kernel_rfl) fun K hK => ?_; simp [*]) | with_reducible refine pwp_block ?_ | with_reducible refine pwp_skip ?_ | with_reducible refine pwp_ret ?_ | with_reducible refine pwp_exit ?_ | (with_reducible refine cond_t ?_ ?_; (focus (simp [*]; done))) | (with_reducible refine cond_f ?_ ?_; (focus (simp [*]; done))) | with_reducible refine then_n ?_ | with_reducible refine then_r ?_ | with_reducible refine then_e ?_ | with_reducible refine then_g ?_ | with_reducible refine inB_n ?_ | with_reducible refine inB_r ?_ | with_reducible refine inB_e ?_ | with_reducible refine inB_o rfl ?_ | with_reducible refine inB_g ?_ | with_reducible refine Leads.go (by assumption) ?_)
            refine PCalls.mono (Lower_spec (an k) _ (an_small k)) ?_
            rintro _ H ⟨rfl, rfl⟩
            try simp [*]
            repeat (first | with_reducible refine seq_k fun K hK => ?_ | (with_reducible refine region_k fun K hK => ?_; simp [*]) | (with_reducible refine region_draw_k mixedO (by kernel_rfl) fun K hK => ?_; simp [*]) | with_reducible refine pwp_block ?_ | with_reducible refine pwp_skip ?_ | with_reducible refine pwp_ret ?_ | with_reducible refine pwp_exit ?_ | (with_reducible refine cond_t ?_ ?_; (focus (simp [*]; done))) | (with_reducible refine cond_f ?_ ?_; (focus (simp [*]; done))) | with_reducible refine then_n ?_ | with_reducible refine then_r ?_ | with_reducible refine then_e ?_ | with_reducible refine then_g ?_ | with_reducible refine inB_n ?_ | with_reducible refine inB_r ?_ | with_reducible refine inB_e ?_ | with_reducible refine inB_o rfl ?_ | with_reducible refine inB_g ?_ | with_reducible refine Leads.go (by assumption) ?_)
            refine PCalls.mono (Lower_spec (aa k) _ (aa_small k)) ?_
            rintro _ H ⟨rfl, rfl⟩
            try simp [*]
            repeat (first | with_reducible refine seq_k fun K hK => ?_ | (with_reducible refine region_k fun K hK => ?_; simp [*]) | (with_reducible refine region_draw_k mixedO (by kernel_rfl) fun K hK => ?_; simp [*]) | with_reducible refine pwp_block ?_ | with_reducible refine pwp_skip ?_ | with_reducible refine pwp_ret ?_ | with_reducible refine pwp_exit ?_ | (with_reducible refine cond_t ?_ ?_; (focus (simp [*]; done))) | (with_reducible refine cond_f ?_ ?_; (focus (simp [*]; done))) | with_reducible refine then_n ?_ | with_reducible refine then_r ?_ | with_reducible refine then_e ?_ | with_reducible refine then_g ?_ | with_reducible refine inB_n ?_ | with_reducible refine inB_r ?_ | with_reducible refine inB_e ?_ | with_reducible refine inB_o rfl ?_ | with_reducible refine inB_g ?_ | with_reducible refine Leads.go (by assumption) ?_)
            rw [hf]
            simp [*]
            rfl
          · have hk := kP.out
            have hno : hitA s k = false := by simp [hitA, hitA1, hitA2, hitA3, h1, h2, h3, h4]
            have hk2 : ∀ j, j < k + 1 → hitA s j = false := fun j hj => by
              rcases Nat.lt_or_ge j k with q | q
              · exact hk j q
              · obtain rfl : j = k := by omega
                exact hno
            have kP2 := Hold.mk hk2
            clear hk hk2 hno
            repeat (first | with_reducible refine seq_k fun K hK => ?_ | (with_reducible refine region_k fun K hK => ?_; simp [*]) | (with_reducible refine region_draw_k mixedO (by kernel_rfl) fun K hK => ?_; simp [*]) | with_reducible refine pwp_block ?_ | with_reducible refine pwp_skip ?_ | with_reducible refine pwp_ret ?_ | with_reducible refine pwp_exit ?_ | (with_reducible refine cond_t ?_ ?_; (focus (simp [*]; done))) | (with_reducible refine cond_f ?_ ?_; (focus (simp [*]; done))) | with_reducible refine then_n ?_ | with_reducible refine then_r ?_ | with_reducible refine then_e ?_ | with_reducible refine then_g ?_ | with_reducible refine inB_n ?_ | with_reducible refine inB_r ?_ | with_reducible refine inB_e ?_ | with_reducible refine inB_o rfl ?_ | with_reducible refine inB_g ?_ | with_reducible refine Leads.go (by assumption) ?_)
            refine PCalls.mono (Lower_spec (an k) _ (an_small k)) ?_
            rintro _ H ⟨rfl, rfl⟩
            try simp [*]
            repeat (first | with_reducible refine seq_k fun K hK => ?_ | (with_reducible refine region_k fun K hK => ?_; simp [*]) | (with_reducible refine region_draw_k mixedO (by kernel_rfl) fun K hK => ?_; simp [*]) | with_reducible refine pwp_block ?_ | with_reducible refine pwp_skip ?_ | with_reducible refine pwp_ret ?_ | with_reducible refine pwp_exit ?_ | (with_reducible refine cond_t ?_ ?_; (focus (simp [*]; done))) | (with_reducible refine cond_f ?_ ?_; (focus (simp [*]; done))) | with_reducible refine then_n ?_ | with_reducible refine then_r ?_ | with_reducible refine then_e ?_ | with_reducible refine then_g ?_ | with_reducible refine inB_n ?_ | with_reducible refine inB_r ?_ | with_reducible refine inB_e ?_ | with_reducible refine inB_o rfl ?_ | with_reducible refine inB_g ?_ | with_reducible refine Leads.go (by assumption) ?_)
            refine PCalls.mono (Lower_spec (aa k) _ (aa_small k)) ?_
            rintro _ H ⟨rfl, rfl⟩
            try simp [*]
            repeat (first | with_reducible refine seq_k fun K hK => ?_ | (with_reducible refine region_k fun K hK => ?_; simp [*]) | (with_reducible refine region_draw_k mixedO (by kernel_rfl) fun K hK => ?_; simp [*]) | with_reducible refine pwp_block ?_ | with_reducible refine pwp_skip ?_ | with_reducible refine pwp_ret ?_ | with_reducible refine pwp_exit ?_ | (with_reducible refine cond_t ?_ ?_; (focus (simp [*]; done))) | (with_reducible refine cond_f ?_ ?_; (focus (simp [*]; done))) | with_reducible refine then_n ?_ | with_reducible refine then_r ?_ | with_reducible refine then_e ?_ | with_reducible refine then_g ?_ | with_reducible refine inB_n ?_ | with_reducible refine inB_r ?_ | with_reducible refine inB_e ?_ | with_reducible refine inB_o rfl ?_ | with_reducible refine inB_g ?_ | with_reducible refine Leads.go (by assumption) ?_)
            simp [*]
            exact kP2.out
  · rintro ⟨E, H, df⟩ ⟨en, edf, ⟨e0, e2, e4, e9, e10, e11, -⟩, eN, eH, eP⟩
    simp only at en edf e0 e2 e4 e9 e10 e11 eN eH
    subst edf
    have hf := fat_none eP
    repeat (first | with_reducible refine seq_k fun K hK => ?_ | (with_reducible refine region_k fun K hK => ?_; simp [*]) | (with_reducible refine region_draw_k mixedO (by kernel_rfl) fun K hK => ?_; simp [*]) | with_reducible refine pwp_block ?_ | with_reducible refine pwp_skip ?_ | with_reducible refine pwp_ret ?_ | with_reducible refine pwp_exit ?_ | (with_reducible refine cond_t ?_ ?_; (focus (simp [*]; done))) | (with_reducible refine cond_f ?_ ?_; (focus (simp [*]; done))) | with_reducible refine then_n ?_ | with_reducible refine then_r ?_ | with_reducible refine then_e ?_ | with_reducible refine then_g ?_ | with_reducible refine inB_n ?_ | with_reducible refine inB_r ?_ | with_reducible refine inB_e ?_ | with_reducible refine inB_o rfl ?_ | with_reducible refine inB_g ?_ | with_reducible refine Leads.go (by assumption) ?_)
    rw [hf]
    simp [*]
    rfl
theorem pure_at (k : Nat) : Pure (atD k) := .agg _ fun d hd => by
  simp only [List.mem_cons, List.mem_nil_iff, or_false] at hd
  rcases hd with rfl | rfl | rfl | rfl | rfl <;> exact .val _
theorem Find_spec (s : ByteArray) (H : Heap) (hs : s.size ≤ 140737488351232) : PCalls Try.prog 8 [strD s] H fun d H' => d = .tup [atD (fat s), .val (.bool (decide (fat s < 20)))] ∧ H' = H :=
  PCalls.liftG (Find_local s hs) (fun d hd => by simp only [List.mem_cons, List.mem_nil_iff, or_false] at hd; subst hd; exact .val _)
    (.tup _ fun d hd => by simp only [List.mem_cons, List.mem_nil_iff, or_false] at hd; rcases hd with rfl | rfl; exact pure_at _; exact .val _) H
end Go.Pv
