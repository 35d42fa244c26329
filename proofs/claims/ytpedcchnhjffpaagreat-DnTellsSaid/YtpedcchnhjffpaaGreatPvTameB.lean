/- A part of the proof: functions of the program, walked, or what operations come to. -/
import Derived.Test.YtpedcchnhjffpaaGreatPvTameA
namespace Go.Pv
open Go.RowKit
/-! ### The same, with the tame and the open ones named -/
def popsB (P : Program) (l : List Oper) (N : Nat) (T O : List Nat) (K : PSt → Prop) (p : List Nat) : PSt → Prop := plistQ P l.toArray N (fun i => T.contains i) (fun i => O.contains i) K p
variable {P : Program}
@[simp] theorem popsB_nil {l : List Oper} {N : Nat} {T O : List Nat} {K : PSt → Prop} (st : PSt) : popsB P l N T O K [] st = K st := propext Iff.rfl
@[simp] theorem popsB_cons {l : List Oper} {N : Nat} {T O : List Nat} {K : PSt → Prop} (i : Nat) (rest : List Nat) (st : PSt) : popsB P l N T O K (i :: rest) st = match l[i]? with
    | none => popsB P l N T O K rest st
    | some o => (O.contains i = true → kindOf P o = 1 → Low N o st) ∧ pops P l.toArray [o] (tameK N (T.contains i) st.H (popsB P l N T O K rest)) st := by
  refine propext ?_
  unfold popsB
  cases h : l[i]? with
  | none =>
    have : l.toArray[i]? = none := by simpa using h
    simp only [plistQ, this]
  | some o =>
    have h' : l.toArray[i]? = some o := by simpa using h
    rw [plistQ_some h']
    exact Iff.rfl
theorem region_tame_b {n : Nat} {Q : Exit → PSt → Prop} {E : Env} {H : Heap} {df : List (FuncId × List D)} (hm : P.follows .mixedOrders = true) (N : Nat) (T O : List Nat) {id : Nat} {ops : List Oper} (hok : drawOkQ P ops (fun i => T.contains i) (fun i => O.contains i) = true)
    (h : ∀ K : PSt → Prop, Leads (fun st => Q .normal st) K → popsB P ops N T O K (List.range' 0 ops.length) ⟨E, H, df⟩) : pwp P n (.region id ops.toArray true) Q ⟨E, H, df⟩ :=
  pwp_region_tame hm N _ _ hok (h _ fun _ h => h)
end Go.Pv
