/- A part of the proof: functions of the program, walked, or what operations come to. -/
import Derived.Test.YtpedcchnhjffpaaGreatPvTame
namespace Go.Pv
open Go.RowKit
/-! ### The same, with all calls tame and all loads open -/
def isTameB : Op → Bool
  | .call _ | .alloc _ | .box .. | .buildSlice .. => true
  | _ => false
def isLoadB : Op → Bool
  | .load .. => true
  | _ => false
def tameI (l : List Oper) (i : Nat) : Bool := match l[i]? with
  | some o => isTameB o.op
  | none => false
def openI (l : List Oper) (i : Nat) : Bool := match l[i]? with
  | some o => isLoadB o.op
  | none => false
def popsA (P : Program) (l : List Oper) (N : Nat) (K : PSt → Prop) (p : List Nat) : PSt → Prop := plistQ P l.toArray N (tameI l) (openI l) K p
variable {P : Program}
@[simp] theorem popsA_nil {l : List Oper} {N : Nat} {K : PSt → Prop} (st : PSt) : popsA P l N K [] st = K st := propext Iff.rfl
@[simp] theorem popsA_cons {l : List Oper} {N : Nat} {K : PSt → Prop} (i : Nat) (rest : List Nat) (st : PSt) : popsA P l N K (i :: rest) st = match l[i]? with
    | none => popsA P l N K rest st
    | some o => (isLoadB o.op = true → Low N o st) ∧ pops P l.toArray [o] (tameK N (isTameB o.op) st.H (popsA P l N K rest)) st := by
  refine propext ?_
  unfold popsA
  cases h : l[i]? with
  | none =>
    have : l.toArray[i]? = none := by simpa using h
    simp only [plistQ, this]
  | some o =>
    have h' : l.toArray[i]? = some o := by simpa using h
    rw [plistQ_some h']
    have h1 : openI l i = isLoadB o.op := by unfold openI; rw [h]
    have h2 : tameI l i = isTameB o.op := by unfold tameI; rw [h]
    rw [h1, h2]
    simp only
    have hk : isLoadB o.op = true → kindOf P o = 1 := fun q => by
      unfold isLoadB at q
      split at q
      · rename_i a b e; unfold kindOf; rw [e]
      · cases q
    exact ⟨fun ⟨a, b⟩ => ⟨fun q => a q (hk q), b⟩, fun ⟨a, b⟩ => ⟨fun q _ => a q, b⟩⟩
@[simp] theorem isTame_call (c : Call) : isTameB (.call c) = true := rfl
@[simp] theorem eqLow_new {N : Nat} {H : Heap} {o : PObj} (h : N ≤ H.nx) : EqLow N H (H.new o) = True := eq_true ⟨fun b hb => Heap.new_ne _ _ (by omega), rfl⟩
attribute [simp] Low isLoadB isTameB
theorem region_tame_a {n : Nat} {Q : Exit → PSt → Prop} {E : Env} {H : Heap} {df : List (FuncId × List D)} (hm : P.follows .mixedOrders = true) {id : Nat} {ops : List Oper} (hok : drawOkQ P ops (tameI ops) (openI ops) = true)
    (h : ∀ K : PSt → Prop, Leads (fun st => Q .normal st) K → popsA P ops H.nx K (List.range' 0 ops.length) ⟨E, H, df⟩) : pwp P n (.region id ops.toArray true) Q ⟨E, H, df⟩ :=
  pwp_region_tame hm H.nx _ _ hok (h _ fun _ h => h)
end Go.Pv
