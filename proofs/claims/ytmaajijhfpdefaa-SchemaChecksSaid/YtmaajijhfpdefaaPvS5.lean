/- A part of the proof: functions of the program, walked, or what operations come to. -/
import Derived.Test.YtmaajijhfpdefaaPvS4
import Derived.Test.YtmaajijhfpdefaaPvLib
import Derived.Test.YtmaajijhfpdefaaShelf
import Derived.Lib.RowBridge
namespace Go.Pv
open Go.Proofs
def lb (l : List (List UInt8)) : List D := l.map (fun a => D.val (encStr a))
def sortB (l : List (List UInt8)) : List (List UInt8) := l.mergeSort fun x y => decide (x ≤ y)
theorem sort_spec (i : Nat) (l : List (List UInt8)) (H : Heap) (hi : H.get i = some (.row 9 (lb l))) (hl : l.length < 4611686018427387904) : PCalls Try.prog 37 [.row i 9 0 l.length] H fun d H' => d = .val (.tuple #[]) ∧ H' = H.put i (some (.row 9 (lb (sortB l)))) := by
  intro base w0 Γ w args hR hA
  obtain ⟨v1, rfl, r1⟩ := repAll1 hA
  cases r1 with
  | row _ _ _ _ x hb he hc hm =>
    obtain ⟨hb1, hlt, _, _, k3, _⟩ := hR.objAt hi hb
    have hH := holds_row (m := []) encStr hR (by simpa [lb] using hi) hb (fun d hd => by cases hd)
    rw [Try.call37]
    have hS := Try.slices_Sort_string x.b x.o (x.cap - 0) l w hH hlt hl
    rw [Nat.zero_mul, Nat.add_zero]
    refine Calls.mono hS ?_
    rintro e w' ⟨rfl, n, os, rfl⟩
    exact ⟨.tuple #[], rfl, Γ, _, .val _, .refl Γ, rel_putRow encStr (fun a => rfl) hR sz9 hi hb (by simp) n os, .val _, rfl, rfl⟩
theorem compact_len (l : List (List UInt8)) : (Lib.compact l).length ≤ l.length := Lib.compact_length_le l
theorem compact_spec (i : Nat) (l : List (List UInt8)) (H : Heap) (hi : H.get i = some (.row 9 (lb l))) : PCalls Try.prog 38 [.row i 9 0 l.length] H fun d H' => d = .row i 9 0 (Lib.compact l).length ∧ H' = H.put i (some (.row 9 (lb (Lib.compact l ++ List.replicate (l.length - (Lib.compact l).length) [])))) := by
  intro base w0 Γ w args hR hA
  obtain ⟨v1, rfl, r1⟩ := repAll1 hA
  cases r1 with
  | row _ _ _ _ x hb he hc hm =>
    have hH := holds_row (m := []) encStr hR (by simpa [lb] using hi) hb (fun d hd => by cases hd)
    rw [Try.call38]
    have hcl := compact_len l
    have hS := Try.slices_Compact_string x.b x.o (x.cap - 0) l w hH (by have : maxLen = 9223372036854775807 := rfl; omega) (by omega)
    rw [Nat.zero_mul, Nat.add_zero]
    refine Calls.mono hS ?_
    rintro e w' ⟨rfl, n, rfl⟩
    refine ⟨_, rfl, Γ, _, .row i 9 0 (Lib.compact l).length, .refl Γ, ?_, ?_, rfl, rfl⟩
    · have := rel_putRow encStr (fun a => rfl) hR sz9 hi hb (l' := Lib.compact l ++ List.replicate (l.length - (Lib.compact l).length) []) (by simp; omega) n #[]
      rwa [Sort.grow_empty] at this
    · have := Rep.row (P := Try.prog) (Γ := Γ) i 9 0 (Lib.compact l).length x hb he (by omega) hm
      rwa [Nat.zero_mul, Nat.add_zero] at this
attribute [local simp] Try.underlying29 Heap.new_get Heap.put_get appK eBuildSlice
@[simp] theorem res36 : Try.f36.results.toList = [.tmp 2] := rfl
@[simp] theorem res28 : Try.f28.results.toList = [.tmp 2] := rfl
@[simp] theorem zd9 : zeroD Try.prog 9 = some [.val (.string ⟨#[]⟩)] := by kernel_rfl
@[simp ↓] theorem append29 (s x : D) (H : Heap) : eAppend Try.prog 29 29 s x H = appK 9 16 s (news Try.prog H 9 29 x) H := eAppend_of Try.underlying29 (show Try.prog.info? 9 = some Try.t9 from rfl) (show Try.t9.zero = some _ from rfl) (by kernel_rfl) (by decide) (by decide) (by kernel_rfl) s x H
@[simp] theorem lb_len (l : List (List UInt8)) : (lb l).length = l.length := by simp [lb]
@[simp] theorem lb_nil (l : List (List UInt8)) : (lb l = []) = (l = []) := by simp [lb]
set_option maxHeartbeats 4000000 in
set_option maxRecDepth 100000 in
theorem clone_spec (i : Nat) (l : List (List UInt8)) (H : Heap) (hi : H.get i = some (.row 9 (lb l))) (hlt : i < H.nx) (hne : l ≠ []) (hl : l.length ≤ 100000) : PCalls Try.prog 36 [.row i 9 0 l.length] H fun d H' => d = .row (H.nx + 1) 9 0 l.length ∧ H' = ((H.new (.row 9 [])).put H.nx none).new (.row 9 (lb l)) := by
  refine PCalls.of_pwp Try.call36 Try.func36 rfl (by simp [Try.ntmps36]) ?_
  rw [Try.ntmps36]
  have hi1 : i ≠ H.nx := by omega
  obtain ⟨A, hA⟩ : ∃ A, A = lb l := ⟨_, rfl⟩
  have hAl : A.length = l.length := by rw [hA, lb_len]
  have hAt : A.take l.length = A := List.take_of_length_le (by omega)
  have hAn : A ≠ [] := by rw [hA]; simpa using hne
  have hb : l.length * 16 ≤ 140737488355328 := by omega
  rw [← hA] at hi ⊢
  clear hA
  repeat (first | with_reducible refine seq_k fun K hK => ?_ | (with_reducible refine region_k fun K hK => ?_; simp [*]) | with_reducible refine pwp_block ?_ | with_reducible refine pwp_skip ?_ | with_reducible refine pwp_ret ?_ | with_reducible refine pwp_exit ?_ | (with_reducible refine cond_t ?_ ?_; (focus (simp [*]; done))) | (with_reducible refine cond_f ?_ ?_; (focus (simp [*]; done))) | with_reducible refine then_n ?_ | with_reducible refine then_r ?_ | with_reducible refine then_e ?_ | with_reducible refine then_g ?_ | with_reducible refine inB_n ?_ | with_reducible refine inB_r ?_ | with_reducible refine inB_e ?_ | with_reducible refine inB_o rfl ?_ | with_reducible refine inB_g ?_ | with_reducible refine Leads.go (by assumption) ?_)
  simp [*]
def uniq (l : List (List UInt8)) : List (List UInt8) := Lib.compact (sortB l)
theorem uniq_len (l : List (List UInt8)) : (uniq l).length ≤ l.length := by
  have := compact_len (sortB l)
  simpa [uniq, sortB] using this
set_option maxHeartbeats 4000000 in
set_option maxRecDepth 100000 in
theorem once_spec (i : Nat) (l : List (List UInt8)) (H : Heap) (hi : H.get i = some (.row 9 (lb l))) (hlt : i < H.nx) (hne : l ≠ []) (hl : l.length ≤ 100000) : PCalls Try.prog 28 [.row i 9 0 l.length] H fun d H' =>
    d = .row (H.nx + 1) 9 0 (uniq l).length ∧ H'.nx = H.nx + 2 ∧ H'.get (H.nx + 1) = some (.row 9 (lb (uniq l ++ List.replicate (l.length - (uniq l).length) []))) ∧ ∀ j, j < H.nx → H'.get j = H.get j := by
  refine PCalls.of_pwp Try.call28 Try.func28 rfl (by simp [Try.ntmps28]) ?_
  rw [Try.ntmps28]
  repeat (first | with_reducible refine seq_k fun K hK => ?_ | (with_reducible refine region_k fun K hK => ?_; simp [*]) | with_reducible refine pwp_block ?_ | with_reducible refine pwp_skip ?_ | with_reducible refine pwp_ret ?_ | with_reducible refine pwp_exit ?_ | (with_reducible refine cond_t ?_ ?_; (focus (simp [*]; done))) | (with_reducible refine cond_f ?_ ?_; (focus (simp [*]; done))) | with_reducible refine then_n ?_ | with_reducible refine then_r ?_ | with_reducible refine then_e ?_ | with_reducible refine then_g ?_ | with_reducible refine inB_n ?_ | with_reducible refine inB_r ?_ | with_reducible refine inB_e ?_ | with_reducible refine inB_o rfl ?_ | with_reducible refine inB_g ?_ | with_reducible refine Leads.go (by assumption) ?_)
  refine PCalls.mono (clone_spec i l H hi hlt hne hl) ?_
  rintro _ _ ⟨rfl, rfl⟩
  try simp
  repeat (first | with_reducible refine seq_k fun K hK => ?_ | (with_reducible refine region_k fun K hK => ?_; simp [*]) | with_reducible refine pwp_block ?_ | with_reducible refine pwp_skip ?_ | with_reducible refine pwp_ret ?_ | with_reducible refine pwp_exit ?_ | (with_reducible refine cond_t ?_ ?_; (focus (simp [*]; done))) | (with_reducible refine cond_f ?_ ?_; (focus (simp [*]; done))) | with_reducible refine then_n ?_ | with_reducible refine then_r ?_ | with_reducible refine then_e ?_ | with_reducible refine then_g ?_ | with_reducible refine inB_n ?_ | with_reducible refine inB_r ?_ | with_reducible refine inB_e ?_ | with_reducible refine inB_o rfl ?_ | with_reducible refine inB_g ?_ | with_reducible refine Leads.go (by assumption) ?_)
  refine PCalls.mono (sort_spec (H.nx + 1) l _ (by simp) (by omega)) ?_
  rintro _ _ ⟨rfl, rfl⟩
  try simp
  repeat (first | with_reducible refine seq_k fun K hK => ?_ | (with_reducible refine region_k fun K hK => ?_; simp [*]) | with_reducible refine pwp_block ?_ | with_reducible refine pwp_skip ?_ | with_reducible refine pwp_ret ?_ | with_reducible refine pwp_exit ?_ | (with_reducible refine cond_t ?_ ?_; (focus (simp [*]; done))) | (with_reducible refine cond_f ?_ ?_; (focus (simp [*]; done))) | with_reducible refine then_n ?_ | with_reducible refine then_r ?_ | with_reducible refine then_e ?_ | with_reducible refine then_g ?_ | with_reducible refine inB_n ?_ | with_reducible refine inB_r ?_ | with_reducible refine inB_e ?_ | with_reducible refine inB_o rfl ?_ | with_reducible refine inB_g ?_ | with_reducible refine Leads.go (by assumption) ?_)
  have hsl : (sortB l).length = l.length := by simp [sortB]
  rw [← hsl]
  refine PCalls.mono (compact_spec (H.nx + 1) (sortB l) _ (by simp)) ?_
  rintro _ _ ⟨rfl, rfl⟩
  try simp
  repeat (first | with_reducible refine seq_k fun K hK => ?_ | (with_reducible refine region_k fun K hK => ?_; simp [*]) | with_reducible refine pwp_block ?_ | with_reducible refine pwp_skip ?_ | with_reducible refine pwp_ret ?_ | with_reducible refine pwp_exit ?_ | (with_reducible refine cond_t ?_ ?_; (focus (simp [*]; done))) | (with_reducible refine cond_f ?_ ?_; (focus (simp [*]; done))) | with_reducible refine then_n ?_ | with_reducible refine then_r ?_ | with_reducible refine then_e ?_ | with_reducible refine then_g ?_ | with_reducible refine inB_n ?_ | with_reducible refine inB_r ?_ | with_reducible refine inB_e ?_ | with_reducible refine inB_o rfl ?_ | with_reducible refine inB_g ?_ | with_reducible refine Leads.go (by assumption) ?_)
  simp
  refine ⟨rfl, by rw [hsl]; rfl, fun j hj => ?_⟩
  have e1 : j ≠ H.nx := by omega
  have e2 : j ≠ H.nx + 1 := by omega
  simp [e1, e2]
end Go.Pv
