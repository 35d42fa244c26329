/- A part of the proof: functions of the program, walked, or what operations come to. -/
import Derived.Test.YtmaajijhfpdefaaPvS2
namespace Go.Pv
open Go.Proofs
def ch : Nat → List Nat
  | 0 => [0]
  | 5 => [5, 4, 0]
  | k => [k, 0]
theorem chain_run : ∀ k, k < 10 → runFz Try.prog 600 27 [clD k] = some (.slice 0 31 ((ch k).map clD))
  | 0, _ => by kernel_rfl
  | 1, _ => by kernel_rfl
  | 2, _ => by kernel_rfl
  | 3, _ => by kernel_rfl
  | 4, _ => by kernel_rfl
  | 5, _ => by kernel_rfl
  | 6, _ => by kernel_rfl
  | 7, _ => by kernel_rfl
  | 8, _ => by kernel_rfl
  | 9, _ => by kernel_rfl
  | _ + 10, h => by omega
theorem pure_cls (g : Nat) (e : TypeId) (l : List Nat) : Pure (.slice g e (l.map clD)) := by
  refine .slice _ _ _ fun d hd => ?_
  simp only [flat, List.mem_flatMap, List.mem_map] at hd
  obtain ⟨x, ⟨y, _, rfl⟩, hd⟩ := hd
  have := pure_cl y
  cases this with
  | agg _ h => exact h d hd
theorem chain_spec (k : Nat) (hk : k < 10) (H : Heap) : PCalls Try.prog 27 [clD k] H fun d H' => d = .slice 0 31 ((ch k).map clD) ∧ H' = H :=
  PCalls.liftG (runFz_spec mixedO (chain_run k hk)) (fun d hd => by simp only [List.mem_cons, List.mem_nil_iff, or_false] at hd; subst hd; exact pure_cl k) (pure_cls _ _ _) H
end Go.Pv
